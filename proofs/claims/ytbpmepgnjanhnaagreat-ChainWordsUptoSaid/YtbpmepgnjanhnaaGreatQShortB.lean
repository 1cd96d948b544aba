import Derived.Test.YtbpmepgnjanhnaaGreatQChartM
set_option linter.unusedVariables false
set_option linter.unusedSimpArgs false
set_option linter.unusedSectionVars false
set_option maxHeartbeats 4000000
set_option maxRecDepth 100000
namespace Go.Proofs.YtbpmepgnjanhnaaGreat
open Go.RowKit
theorem ZxF {g:Ac} (hg:g.ok) (hc:cycL g=[]) {t:Bool} {v:Int}:∀ (n:Nat) (v0:Int) (p:List Int) (i:Int) (s:SS),0≤v0→v0 < g.vars→i∈by_ g v0→rnk g v0 < n→p.length+n≤70→(∀ x∈p,0≤x∧x≤160)→GOk g s.gv→s.F.length=s.R.length→s.R.length+(Zdi g i).length≤160 →
  Af Tryz.prog 124 [.ptr 1000 0,I v,I i,.d (Zah false (Zcc p (ZaJ i (kN g i))))] (shH t g s.gv s.R s.F) (B (rulM g v n p i s).1) (shH t g (rulM g v n p i s).2.gv (rulM g v n p i s).2.R (rulM g v n p i s).2.F):=by
 intro n
 induction n with
 | zero=>intro v0 p i s _ _ _ h;omega
 | succ n ih =>
 intro v0 p i s h0 h1 hi hn hp hpb hgv hF hR;obtain⟨k,hk,ek,_⟩:=by_mem.1 hi;have hrk:Zaj g i=g.Aa[k].right:=by rw[ek];exact Zaw hk
 have hrr:=hg.right _ (He hk);have hrl:=hg.Aa;have hun:Af Tryz.prog 187 [.d (.agg [iD g.Aa[k].left,ints t g.Aa[k].right])] [] (I (ZaB (Zaj g i))) []:=by rw[hrk];exact ZsC (by omega)
 have hkn:kN g i≤10:=by
  unfold kN;rw[hrk];have:=Zbi g.Aa[k].right;omega
 obtain⟨gv,R,F⟩:=s;dsimp only at hgv hF hR ⊢;rw[rulM];by_cases hu:ZaB (Zaj g i) < 0
 ·rw[Hb hu];have hE:Zdi g i=[[i]]:=by unfold Zdi;rw[Hb hu]
  rw[hE] at hR;simp only[HZ] at hR;have hsz:=Zgk p (ZaJ i (kN g i));rw[Zir] at hsz;have hpt:=Zud _ (t:=false) (l:=Zcc p (ZaJ i (kN g i))) (Gj _) (by omega);have hge:=ZoY (Zaj g i);have e:R.map (Za2 false)++[.agg [.raw (.int .i64 v),.sl false 1 ([]++g.Aa[k].right.map iD)]]=(R++[(⟨v,Zaj g i⟩:Rule)]).map (Za2 false):=by rw[hrk,Ho];rfl
  generalize Zcc p (ZaJ i (kN g i))=W at *;have e2:F.map (Zah false)++[Zah false W]=(F++[W]).map (Zah false):=by rw[Ho];rfl
  have e3:decide ((Aj W:Int)≤60)=decide (Aj W≤60):=decide_eq_decide.2 (by omega);rw[←e3];generalize ZaB (Zaj g i)=un at *;refine Af.intro (n:=96) Tryz.func124 (hw:=?_);simp only[Zal];refine VA ?_;refine Zab [] (hA:=hun) (hr:=?_);refine VA ?_;refine Zab [] (hA:=hpt) (hr:=?_);repeat (first|refine wkr ?_|refine ZCJ (hr:=?_))
  rw[e,e2,Hh,Hh];refine VA ?_;exact fin
 ·rw[Ha hu];have hs:=Zd9 hi (by omega);obtain⟨u0,u1⟩:=ZeK hg h0 h1 hs;have hr:=ZdL hg hc h0 h1 hs;have hwe:=Zkk hg hc u0 u1;have hE:Zdi g i=(ways g (ZaB (Zaj g i))).map (i::·):=by unfold Zdi;rw[Ha hu]
  rw[hE,Hh,hwe] at hR;rw[ZBZ (g:=g) (i:=i) (by omega)];obtain⟨u,hu2⟩:∃ u:Nat,ZaB (Zaj g i)=(u:Int):=⟨(ZaB (Zaj g i)).toNat,by omega⟩
  rw[hu2] at hun u0 u1 hr hR ⊢;have hct:=Zo0 hg hc (t:=t) (R:=R) (F:=F) 65 u gv (by have:=ZpF hg u0 u1;omega) u1 hgv;have hok1:=Zis (g:=g) 65 u gv hgv;rw[Hn];generalize cntM g 65 u gv=gv1 at *;have hcr:=Zno g u;by_cases hz:cw g u=0
  ·rw[Hb hz];rw[hz] at hct;refine Af.intro (n:=96) Tryz.func124 (hw:=?_);simp only[Zal];refine VA ?_;refine Zab [] (hA:=hun) (hr:=?_);refine VA ?_;refine Zab [] (hA:=hct) (hr:=?_);refine VA ?_;exact fin
  ·rw[Ha hz];have hby:=Zmt (t:=t) (g:=g) (v:=(u:Int)) (by omega);have hbll:=Zv8 g u;have hin:∀ x∈by_ g u,x∈by_ g (u:Int):=fun x h=>h
   generalize hbl:by_ g (u:Int)=bl at *;generalize cw g u=cu at *;obtain⟨b,sf,hres⟩:∃ b sf,rulL (fun k s=>rulM g v n (p++[i]) k s) bl ⟨gv1,R,F⟩=(b,sf):=⟨_,_,rfl⟩
   rw[hres];obtain⟨fg,fR,fF⟩:=sf;dsimp only;refine Af.intro (n:=96) Tryz.func124 (hw:=?_);simp only[Zal];refine VA ?_;refine Zab [] (hA:=hun) (hr:=?_);refine VA ?_;refine Zab [] (hA:=hct) (hr:=?_);refine VA ?_;refine Zab [] (hA:=hby) (hr:=?_);refine VA ?_;refine Zak (X:=Nat×SS) (fun x=>x.1≤bl.length∧rulL (fun k s=>rulM g v n (p++[i]) k s) (bl.drop x.1) x.2=(b,⟨fg,fR,fF⟩)∧GOk g x.2.gv∧x.2.F.length=x.2.R.length∧x.2.R.length+((bl.drop x.1).flatMap (Zdi g)).length≤160)
    (fun x=>[(70,I x.1),(69,I bl.length),(68,.own 5 bl.length),(3,.d (Zah false (Zcc p (ZaJ i 1)))),(1,I v),(0,.ptr 1000 0)]) (fun x=>(5,.row 3 1 (bl.map iD))::shH t g x.2.gv x.2.R x.2.F) (fun x=>bl.length - x.1) (0,⟨gv1,R,F⟩) ⟨Hi _,hres,hok1,hF,hR⟩ ?_
   rintro⟨j,gw,Rw,Fw⟩ ⟨j1,j2,j3,j4,j5⟩;dsimp only at j1 j2 j3 j4 j5 ⊢;by_cases hlt:j < bl.length
   ·have hm:bl[j]∈by_ g (u:Int):=(by rw[hbl];exact He hlt);obtain⟨k2,hk2,ek2,_⟩:=by_mem.1 hm;have hrk2:Zaj g bl[j]=g.Aa[k2].right:=(by rw[ek2];exact Zaw hk2);have hrr2:=hg.right _ (He hk2);have hkn2:kN g bl[j]=(Ab g.Aa[k2].right).length:=(by unfold kN;rw[hrk2]);have hkl:=Zbi g.Aa[k2].right;have hkd:=ZcG (t:=t) (l:=g.Aa[k2].left) (xs:=g.Aa[k2].right) (by omega);rw[Hw hlt,rulL] at j2;rw[Hw hlt,HO,Hk] at j5;have hpb2:∀ x∈p++[i],0≤x∧x≤160:=fun x hx=>by
     rcases List.mem_append.1 hx with hx|hx
     ·exact hpb x hx
     ·rw[List.mem_singleton.1 hx];omega
    have hG:=Ziu hg hc v n u (p++[i]) bl[j] ⟨gw,Rw,Fw⟩ u0 u1 hm (by omega);have hih:=ih u (p++[i]) bl[j] ⟨gw,Rw,Fw⟩ u0 u1 hm (by omega) (by simp;omega) hpb2 j3 j4 (by dsimp only;omega);have hnd:=Zft (r:=bl[j]) (k:=kN g bl[j]) (by omega);have hplug:Af Tryz.prog 189 [.d (Zah false (Zcc p (ZaJ i 1))),I 0,.d (Zah true (ZaJ bl[j] (kN g bl[j]))),I (kN g bl[j])] [] (.d (Zah false (Zcc (p++[i]) (ZaJ bl[j] (kN g bl[j]))))) []:=by
     have hs1:=Zgk p (ZaJ i 1);rw[Zir] at hs1;have hs2:=Zir bl[j] (kN g bl[j]);have hnb2:NbL 1000000000 (ZaJ bl[j] (kN g bl[j])):=Zsz (by omega) (by omega) (by omega);have h:=Zop (t:=false) (u:=true) (l:=Zcc p (ZaJ i 1)) (inn:=ZaJ bl[j] (kN g bl[j])) (k:=0) (n:=(kN g bl[j]:Int)) (by omega) (by omega) (by rw[ZbP];exact ZsA (by omega) (by omega)) (Znn (Zsz (by omega) (by omega) (by omega)) (fun x hx=>by have:=hpb x hx;omega)) hnb2 (by rw[ZoZ];exact Znn hnb2 (fun x hx=>by have:=hpb2 x hx;omega)) (by omega) (by omega) (by omega) (by omega);rw[ZoZ] at h;exact h
    dsimp only at hih;rw[hkn2] at hnd hplug hih;generalize rulM g v n (p++[i]) bl[j] ⟨gw,Rw,Fw⟩=q at *;obtain⟨b2,gz,Rz,Fz⟩:=q;have hG3:=hG.gv j3;have hG4:=hG.len j4;have hGa:=hG.all;dsimp only at hih hG3 hG4 hGa j2;have hWl:(ZaJ bl[j] (Ab g.Aa[k2].right).length).length=1:=rfl;generalize hWW:ZaJ bl[j] (Ab g.Aa[k2].right).length=WW at *;generalize Zcc (p++[i]) WW=W2 at *;generalize Zcc p (ZaJ i 1)=W1 at *;cases b2 with
    | true =>
     rw[Hb rfl] at j2;have hlen:Rz.length=Rw.length+(Zdi g bl[j]).length:=(by rw[(hGa rfl).1,Hk,Hh]);refine VA ?_;refine Zab [] (hA:=hkd) (hr:=?_);refine VA ?_;refine Zab [] (hA:=hnd) (hr:=?_);refine VA ?_;refine Zab [] (hA:=hplug) (hr:=?_);refine VA ?_;refine Zab [] (hA:=hih) (hr:=?_);refine VA ?_;exact Zad (j+1,⟨gz,Rz,Fz⟩) (a:=⟨by omega,j2,hG3,hG4,by dsimp only;omega⟩) (b:=by dsimp only;omega)
    | false =>
     rw[Ha (by decide)] at j2;obtain⟨rfl,rfl,rfl,rfl⟩:false=b∧gz=fg∧Rz=fR∧Fz=fF:=by injection j2 with a1 a2;injection a2 with a2 a3 a4;exact⟨a1,a2,a3,a4⟩
     refine VA ?_;refine Zab [] (hA:=hkd) (hr:=?_);refine VA ?_;refine Zab [] (hA:=hnd) (hr:=?_);refine VA ?_;refine Zab [] (hA:=hplug) (hr:=?_);refine VA ?_;refine Zab [] (hA:=hih) (hr:=?_);refine VA ?_;exact fin
   ·rw[HL (by omega),rulL] at j2;obtain⟨rfl,rfl,rfl,rfl⟩:true=b∧gw=fg∧Rw=fR∧Fw=fF:=by injection j2 with a1 a2;injection a2 with a2 a3 a4;exact⟨a1,a2,a3,a4⟩
    refine VA ?_;exact fin
def ZDS (sz m:Nat) (ob:Ob):Prop:=∃ e xs,ob=.row e sz xs∧xs.length=m
section
variable {P:Program} {n:Nat} {ops:Array Oper} {K:Exit→Fr→Hp→Prop} {dr:Bool} {rest:List Oper} {log:List Rec} {fr:Fr} {h:Hp} {d:Nat} {ty:TypeId} {pos:String} {after:Array Edge} {g:Option (Nat×Bool)}
variable (T:TT P)
theorem ZDT {x:Operand} {t e sz k m:Nat} {et:TypeId} {ys:List D} {y:Ty} (hdn:Nat.blt d n=true) (hg:gOk ops fr g) (hx:oev fr x=.own k m) (hk:Ah h k=some (.row et sz ys)) (hm:ys.length=m) (ht:T.rows[t]? = some y) (hel:y.elem=some e) (hlog:(log.all fun r=>r.wk.all fun j=>!Nat.beq j k)=true)
  (hr:dops P n dr ops rest (⟨(gIns ops g++ZaF x (.own k m)).map Prod.fst,[d],[],[]⟩::log) (fun e fr' h'=>K e fr' h'∧(e=.normal→∃ u,h'=u++h∧∀ q∈u,q.1=k→ZDS sz m q.2)) ((d,I m)::fr) h):dops P n dr ops (⟨some d,.call { callee:=.builtin .len,args:=#[x],argTypes:=#[t] },ty,pos,after,g⟩::rest) log K fr h:=by
 refine .inr ⟨gIns ops g++ZaF x (.own k m),k,ZDS sz m,I m,?_,fun p hp=>?_,⟨_,hk,et,ys,rfl,hm⟩,fun r hr hm'=>?_,hr⟩
 ·intro G E fr' h' a w K Q hPan hn C hi ho hK;obtain⟨ob,hk',et',ys',rfl,hm'⟩:=ho;have hgo:gOk ops fr' g:=Zid hg (fun p hp=>hi p (List.mem_append.2 (.inl hp)));obtain⟨r,_⟩:=C.oev (ZcC hx (fun p hp=>hi p (List.mem_append.2 (.inr hp)))) (Zam (Zan hx rfl));have ha:At h' sz (.own k m) ys' [(k,some (.row et' sz ys'))]:=.own hk' hm';obtain⟨ad,c,news,h1,_⟩:=ha.slArg C r;obtain⟨_,ds,_,k2,_,_,_,_,k7,_⟩:=ZaG (T.at ht);have hds:=k7 e hel;subst hds;have he:(execOp a.eval ⟨some d,.call { callee:=.builtin .len,args:=#[x],argTypes:=#[t] },ty,pos,after,g⟩).run P w=.ok (.value (.int .i64 ys'.length)) w:=by
   refine Zlz ?_;rw[h1];simp[Builtin.len_,run_underlying k2,goInt]
  unfold wpS;rw[Hb (Zct C hgo)];refine .inl ?_;unfold Oper.wp;rw[he];simp only[Oper.upon];refine hK E _ w ?_;refine C.put (by rw[hn];simpa[HT] using hdn) ?_ (fun j hj=>by simp[V.keys] at hj);rw[hm'];simp[V.Rep,D.RepV,D.Rep,Value.oneCell']
 ·rcases List.mem_append.1 hp with hp|hp
  ·exact ZdH hg p hp
  ·exact ZbM hx p hp
 ·rw[HQ] at hlog;have h1:=hlog r hr;rw[HQ] at h1;have h2:=h1 k hm';rw[Gt] at h2;cases h2
end
def Zcf (g:Ac) (k:Nat):List Rule:=(List.range k).flatMap fun (v:Nat)=>(ways g v).map (ZgO g v)
def Zdg (g:Ac) (k:Nat):List (List Ad):=(List.range k).flatMap fun (v:Nat)=>(ways g v).map (wayF g)
def Zeb (g:Ac) (v:Nat):Bool:=decide ((Zcf g v).length+(ways g v).length≤160) && (ways g v).all fun w=>decide (Aj (wayF g w)≤60)
def Zbr (g:Ac):Step:=⟨⟨g.vars,g.terms,g.start,Zcf g g.vars.toNat⟩,Zdg g g.vars.toNat,[]⟩
def Zcg (g:Ac):Step×Zci :=
 if (Zac g).code=0 then
  if 0 < (cycL g).length then (Ag,⟨10, -1⟩) else
   match (List.range g.vars.toNat).find? (fun v=>!Zeb g v) with
   | some v=>(Ag,⟨6,v⟩)
   | none=>(Zbr g,⟨0,0⟩)
 else (Ag,Zac g)
theorem Zec (g:Ac) (k:Nat):Zcf g (k+1)=Zcf g k++(ways g k).map (ZgO g k):=by simp[Zcf,Gq]
theorem Zfu (g:Ac) (k:Nat):Zdg g (k+1)=Zdg g k++(ways g k).map (wayF g):=by simp[Zdg,Gq]
theorem ZrA (g:Ac):∀ k,(Zdg g k).length=(Zcf g k).length
 | 0=>rfl
 | k+1=>by rw[Zec,Zfu,Hk,Hk,ZrA g k];simp
theorem ZxG {g:Ac} {n v:Nat} (hv:v < n) (hb:∀ u,u < v→Zeb g u=true) (hv2:Zeb g v=false):(List.range n).find? (fun v=>!Zeb g v)=some v:=by
 rw[List.find?_eq_some_iff_append];refine⟨by rw[hv2];rfl,List.range v,(List.range n).drop (v+1),?_,fun u hu=>by rw[hb u (List.mem_range.1 hu)];rfl⟩;have h1:v < (List.range n).length:=by simpa using hv
 have h2:=(Ge v (List.range n)).symm;rw[Hw h1,List.getElem_range,List.take_range,Gx (by omega)] at h2;exact h2
theorem ZxH {g:Ac} {n:Nat} (hb:∀ u,u < n→Zeb g u=true):(List.range n).find? (fun v=>!Zeb g v)=none:=by
 rw[List.find?_eq_none];intro u hu;rw[hb u (List.mem_range.1 hu)];simp
abbrev shB (g:Ac) (r f:Nat):Ob:=.box 166 [I g.vars,I g.terms,I g.start,.d (ZaS false g.Aa),.own 901 g.vars.toNat,I g.vars,I g.terms,I g.start,.own 902 r,.own 903 f,.d (.raw (.slice none 0 0))]
theorem ZnV {g:Ac} (hf:g.fit) :
  Af Tryz.prog 69 [.d (Zbo false g)] [] (.tup [.d (ZdB false (Zcg g).1),.d (Zbu (Zcg g).2)]) []:=by
 refine Af.intro (n:=107) Tryz.func69 (hw:=?_);simp only[Zal];have hcy:=ZeW (t:=false) hf;by_cases hc:(Zac g).code=0
 rotate_left
 ·rw[show Zcg g=(Ag,Zac g) by rw[Zcg,Ha hc]];generalize Zac g=gf at *;refine VA ?_;refine Zab [] (hA:=hcy) (hr:=?_);refine VA ?_;exact fin2
 have hg:=Zbe hc;have hgf:=hg.fault;rw[hgf] at hcy;have hcl:(cycL g).length≤100000000:=by
  have h1:=hg.vars;unfold cycL ZfU;rw[Hb hc,Hh];have h2:=Gc (fun (v:Nat)=>has (rowM (ledM false g) v) v) (List.range g.vars.toNat);rw[List.length_range] at h2;omega
 by_cases hn:0 < (cycL g).length
 ·rw[show Zcg g=(Ag,⟨10, -1⟩) by rw[Zcg,Hb hc,Hb hn]];generalize cycL g=cl at *;refine VA ?_;refine Zab [] (hA:=hcy) (hr:=?_);refine VA ?_;exact fin2
 have hcn:cycL g=[]:=List.length_eq_zero_iff.1 (by omega);rw[hcn] at hcy;have hv1:=hg.vars1;have hv2:=hg.vars;have hv0:((g.vars.toNat:Nat):Int)=g.vars:=by omega
 refine VA ?_;refine Zab [] (hA:=hcy) (hr:=?_);refine VA ?_;refine ZaC 28 4 901 3 1 rfl rfl rfl rfl ?_;refine ZaC 28 8 902 68 2 rfl rfl rfl rfl ?_;refine ZaC 28 9 903 75 1 rfl rfl rfl rfl ?_;refine Zak (X:=Nat) (fun k=>k≤g.vars.toNat) (fun k=>[(42,I k),(41,.d (iD g.vars)),(6,.ptr 28 0),(3,.ptr 3 0),(2,.ptr 2 0),(1,.ptr 1 0)])
  (fun k=>[(28,.box 166 [I g.vars,I g.terms,I g.start,.d (ZaS false g.Aa),.own 901 k,I g.vars,I g.terms,I g.start,.own 902 0,.own 903 0,.d (.raw (.slice none 0 0))]),(901,.row 3 1 ((List.replicate k (-1:Int)).map iD)),(902,.row 68 2 []),(903,.row 75 1 []),(1,ZaD false g),(2,Zce false Ag),(3,.box 31 [.d (iD 0),.d (iD 0)])]) (fun k=>g.vars.toNat - k) 0 (Hi _) ?_
 intro k hk;have hrep:(List.replicate k (-1:Int)).length=k:=HM;by_cases hlt:(k:Int) < g.vars
 ·have e:List.replicate (k+1) (-1:Int)=List.replicate k (-1:Int)++[-1]:=Jv;refine VA ?_;exact Zad (k+1)
 ·obtain rfl:k=g.vars.toNat:=by omega
  refine VA ?_;clear hrep hlt hk;have hgv0:GOk g (List.replicate g.vars.toNat (-1)):=⟨HM,fun k h=>.inl (by simp)⟩
  refine Zak (X:=Nat×List Int) (fun x=>x.1≤g.vars.toNat∧GOk g x.2∧(Zcf g x.1).length≤160∧∀ u,u < x.1→Zeb g u=true)
   (fun x=>[(56,I x.1),(55,.d (iD g.vars)),(6,.ptr 28 0),(3,.ptr 3 0),(2,.ptr 2 0),(1,.ptr 1 0)])
   (fun x=>[(28,shB g (Zcf g x.1).length (Zdg g x.1).length),(901,.row 3 1 (x.2.map iD)),(902,.row 68 2 ((Zcf g x.1).map (Za2 false))),(903,.row 75 1 ((Zdg g x.1).map (Zah false))),(1,ZaD false g),(2,Zce false Ag),(3,.box 31 [.d (iD 0),.d (iD 0)])]) (fun x=>g.vars.toNat - x.1) (0,List.replicate g.vars.toNat (-1)) ⟨Hi _,hgv0,by simp[Zcf],fun u h=>by omega⟩ ?_
  rintro⟨v,gv⟩ ⟨j1,j2,j3,j4⟩;dsimp only at j1 j2 j3 j4 ⊢;have hfl:=ZrA g v;by_cases hlt:(v:Int) < g.vars
  ·have hct:=Zo0 hg hcn (t:=false) (R:=Zcf g v) (F:=Zdg g v) 65 v gv (by have:=ZpF hg (v:=(v:Int)) (by omega) hlt;omega) hlt j2;have hok1:=Zis (g:=g) 65 v gv j2;have hcr:=Zno g v;generalize cntM g 65 v gv=gv1 at *;repeat (first|refine Zxu TY (d:=64) (by exact rfl) Zag (by exact rfl) (by exact rfl) (by exact rfl) (by exact rfl) (by exact rfl) (by exact rfl) ?_|refine ZDT TY (d:=65) (by exact rfl) Zag (by exact rfl) (by exact rfl) (by exact Hh _) (by exact rfl) (by exact rfl) (by exact rfl) ?_|refine wk1 ?_)
   refine Zab [(1000,28),(1001,901),(1002,902),(1003,903)] (hA:=hct) (hr:=?_);refine VA ?_;refine⟨?_,fun _=>⟨[(28,_),(901,_),(902,_),(903,_)],rfl,?_⟩⟩
   rotate_left
   ·intro q hq e;simp only[Gs,GA,or_false] at hq;rcases hq with rfl|rfl|rfl|rfl
    ·simp at e
    ·simp at e
    ·exact⟨_,_,rfl,by simp⟩
    ·simp at e
   refine⟨?_,fun _=>⟨[(28,_),(901,_),(902,_),(903,_)],rfl,?_⟩⟩
   rotate_left
   ·intro q hq e;simp only[Gs,GA,or_false] at hq;rcases hq with rfl|rfl|rfl|rfl
    ·exact⟨_,_,rfl,rfl⟩
    ·simp at e
    ·simp at e
    ·simp at e
   have hby:=Zmt (t:=false) (g:=g) (v:=(v:Int)) (by have:=hg.Aa;omega);have hbll:=Zv8 g v;have hrl:=hg.Aa;have hwe:=Zkk hg hcn (v:=(v:Int)) (by omega) hlt;have hG:=Zit (g:=g) (v:=v) (p:=[]) (f:=fun k s=>rulM g v 65 [] k s) (by_ g v) ⟨gv1,Zcf g v,Zdg g v⟩ (fun k hk s=>Ziu hg hcn v 65 v [] k s (by omega) hlt hk (by have:=ZpF hg (v:=(v:Int)) (by omega) hlt;omega));rw[←hwe] at hG;have hcw:cw g v=min ((ways g v).length:Int) 161:=rfl;have hin:∀ x∈by_ g (v:Int),x∈by_ g (v:Int):=fun x h=>h
   have hfm:(by_ g (v:Int)).flatMap (Zdi g)=ways g v:=hwe.symm;have hs1:=Zec g v;have hs2:=Zfu g v;have hsg:Zeb g v=(decide ((Zcf g v).length+(ways g v).length≤160) && (ways g v).all fun w=>decide (Aj (wayF g w)≤60)):=rfl;generalize hbl:by_ g (v:Int)=bl at *;generalize Zcf g v=R0 at *;generalize Zdg g v=F0 at *;obtain⟨RES,hres⟩:∃ RES,rulL (fun k s=>rulM g v 65 [] k s) bl ⟨gv1,R0,F0⟩=RES:=⟨_,rfl⟩
   rw[hres] at hG;refine VA ?_;refine Zab [(5,907)] (hA:=hby) (hr:=?_);refine VA ?_;obtain⟨b0,hb0⟩:∃ b0:Bool,decide ((R0.length:Int)+cw g v≤160)=b0:=⟨_,rfl⟩
   have hinit:(b0=true∧rulL (fun k s=>rulM g v 65 [] k s) (bl.drop 0) ⟨gv1,R0,F0⟩=RES∧R0.length+((bl.drop 0).flatMap (Zdi g)).length≤160)∨(b0=false∧Zeb g v=false):=by
    cases b0 with
    | true =>
     have:=H3 hb0;refine .inl ⟨rfl,hres,?_⟩;rw[Gk,hfm];omega
    | false =>
     have:=of_decide_eq_false hb0;refine .inr ⟨rfl,?_⟩;rw[hsg,HA (by omega)];rfl
   refine Zak (X:=Nat×Bool×SS) (fun x=>x.1≤bl.length∧GOk g x.2.2.gv∧x.2.2.F.length=x.2.2.R.length∧((x.2.1=true∧rulL (fun k s=>rulM g v 65 [] k s) (bl.drop x.1) x.2.2=RES∧x.2.2.R.length+((bl.drop x.1).flatMap (Zdi g)).length≤160)∨(x.2.1=false∧Zeb g v=false)))
    (fun x=>[(75,I x.1),(74,I bl.length),(73,.own 907 bl.length),(8,B x.2.1),(7,I v),(56,I v),(55,.d (iD g.vars)),(6,.ptr 28 0),(3,.ptr 3 0),(2,.ptr 2 0),(1,.ptr 1 0)])
    (fun x=>[(907,.row 3 1 (bl.map iD)),(28,shB g x.2.2.R.length x.2.2.F.length),(901,.row 3 1 (x.2.2.gv.map iD)),(902,.row 68 2 (x.2.2.R.map (Za2 false))),(903,.row 75 1 (x.2.2.F.map (Zah false))),(1,ZaD false g),(2,Zce false Ag),(3,.box 31 [.d (iD 0),.d (iD 0)])]) (fun x=>bl.length - x.1) (0,b0,⟨gv1,R0,F0⟩) ⟨Hi _,hok1,hfl,hinit⟩ ?_ (hf:=?_)
   rotate_left
   ·exact⟨.of rfl,.of rfl,.of rfl,ZbS rfl hb0,.of rfl,.of rfl,.of rfl,.of rfl,.of rfl,.of rfl,.of rfl,trivial⟩
   rintro⟨j,b,gw,Rw,Fw⟩ ⟨m1,m2,m3,m4⟩;dsimp only at m1 m2 m3 m4 ⊢;by_cases hlt2:j < bl.length
   ·have hm:bl[j]∈by_ g (v:Int):=(by rw[hbl];exact He hlt2);obtain⟨k2,hk2,ek2,_⟩:=by_mem.1 hm;rcases m4 with ⟨rfl,m5,m6⟩|⟨rfl,m5⟩
    ·have hrk2:Zaj g bl[j]=g.Aa[k2].right:=(by rw[ek2];exact Zaw hk2);have hrr2:=hg.right _ (He hk2);have hkn2:kN g bl[j]=(Ab g.Aa[k2].right).length:=(by unfold kN;rw[hrk2]);have hkl:=Zbi g.Aa[k2].right;have hkd:=ZcG (t:=false) (l:=g.Aa[k2].left) (xs:=g.Aa[k2].right) (by omega);rw[Hw hlt2,rulL] at m5;rw[Hw hlt2,HO,Hk] at m6;have hrv:=ZpF hg (v:=(v:Int)) (by omega) hlt;have hG2:=Ziu hg hcn v 65 v [] bl[j] ⟨gw,Rw,Fw⟩ (by omega) hlt hm (by omega);have hih:=ZxF hg hcn (t:=false) (v:=(v:Int)) 65 v [] bl[j] ⟨gw,Rw,Fw⟩ (by omega) hlt hm (by omega) (by simp) (by simp) m2 m3 (by dsimp only;omega);have hnd:=Zft (r:=bl[j]) (k:=kN g bl[j]) (by omega);dsimp only at hih;rw[show Zcc [] (ZaJ bl[j] (kN g bl[j]))=ZaJ bl[j] (kN g bl[j]) from rfl] at hih;rw[hkn2] at hnd hih;generalize rulM g v 65 [] bl[j] ⟨gw,Rw,Fw⟩=q at *;obtain⟨b2,gz,Rz,Fz⟩:=q;have hG3:=hG2.gv m2;have hG4:=hG2.len m3;have hGa:=hG2.all;dsimp only at hih hG3 hG4 hGa m5;have hWl:(ZaJ bl[j] (Ab g.Aa[k2].right).length).length=1:=rfl;generalize hWW:ZaJ bl[j] (Ab g.Aa[k2].right).length=WW at *;cases b2 with
     | true =>
      rw[Hb rfl] at m5;have hlen:Rz.length=Rw.length+(Zdi g bl[j]).length:=(by rw[(hGa rfl).1,Hk,Hh]);refine VA ?_;refine Zab [(3,905)] (hA:=hkd) (hr:=?_);refine VA ?_;refine Zab [(20,906)] (hA:=hnd) (hr:=?_);refine VA ?_;refine ZaV [(1000,28),(1001,901),(1002,902),(1003,903)] (hA:=hih) (hr:=?_);refine VA ?_;exact Zad (j+1,true,⟨gz,Rz,Fz⟩) (a:=⟨by omega,hG3,hG4,.inl ⟨rfl,m5,by dsimp only;omega⟩⟩) (b:=by dsimp only;omega)
     | false =>
      rw[Ha (by decide)] at m5;subst m5;have hbad:Zeb g v=false:=by
       obtain⟨w,hw,hsz⟩:=hG.one rfl;rw[hsg,Bool.and_eq_false_iff];refine .inr ?_;cases hall:(ways g (v:Int)).all (fun w=>decide (Aj (wayF g w)≤60)) with
       | false=>rfl
       | true =>
        have:=H3 (List.all_eq_true.1 hall w hw);have h3:Aj (Zcc [] (wayF g w))=Aj (wayF g w):=rfl;omega
      refine VA ?_;refine Zab [(3,905)] (hA:=hkd) (hr:=?_);refine VA ?_;refine Zab [(20,906)] (hA:=hnd) (hr:=?_);refine VA ?_;refine ZaV [(1000,28),(1001,901),(1002,902),(1003,903)] (hA:=hih) (hr:=?_);refine VA ?_;exact Zad (j+1,false,⟨gz,Rz,Fz⟩) (a:=⟨by omega,hG3,hG4,.inr ⟨rfl,hbad⟩⟩) (b:=by dsimp only;omega)
    ·refine VB ?_;refine VA ?_;exact Zad (j+1,false,⟨gw,Rw,Fw⟩) (a:=⟨by omega,m2,m3,.inr ⟨rfl,m5⟩⟩) (b:=by dsimp only;omega)
   ·rcases m4 with ⟨rfl,m5,m6⟩|⟨rfl,m5⟩
    ·rw[HL (by omega),rulL] at m5;subst m5;obtain⟨a1,a2,a3⟩:=hG.all rfl;dsimp only at a1 a2;have e1:Rw=Zcf g (v+1):=(by rw[hs1,a1]);have e2:Fw=Zdg g (v+1):=(by rw[hs2,a2];rfl);have hgood:Zeb g v=true:=by
      have hl:=Hz List.length a1;rw[Hk,Hh] at hl;have hle:=m6;rw[HL (by omega)] at hle;simp only[List.flatMap_nil,HC,Gr] at hle;rw[hsg,Ht (by omega),H0,HQ];exact fun w hw=>Ht (a3 w hw)
     have hlen:Rw.length≤160:=by
      have hle:=m6;rw[HL (by omega)] at hle;simpa using hle
     subst e1;subst e2;refine VA ?_;exact Zad (v+1,gw) (a:=⟨by omega,m2,hlen,fun u hu=>by rcases Nat.lt_succ_iff_lt_or_eq.1 hu with h|h;exact j4 u h;rw[h];exact hgood⟩) (b:=by dsimp only;omega)
    ·rw[show Zcg g=(Ag,⟨6,v⟩) by rw[Zcg,Hb hc,Ha hn,ZxG (by omega) j4 m5]];refine VA ?_;exact fin2
  ·obtain rfl:v=g.vars.toNat:=by omega
   rw[show Zcg g=(⟨⟨g.vars,g.terms,g.start,Zcf g g.vars.toNat⟩,Zdg g g.vars.toNat,[]⟩,⟨0,0⟩) by rw[Zcg,Hb hc,Ha hn,ZxH j4];rfl];refine Zaz 902 rfl ?_;refine Zaz 903 rfl ?_;refine VA ?_;exact fin2
theorem Zmx:∀ (k:Nat),cpL (ZaE k)=k
 | 0=>rfl
 | k+1=>by
  unfold ZaE at *;rw[Gq,Ho,Zdo];have:=Zmx k;unfold ZaE at this;rw[this];simp[cpL,cpF]
theorem ZxI (g:Ac):∀ w:List Int,cpL (wayF g w)=Aj (wayF g w)
 | []=>rfl
 | [r]=>by simp[wayF,ZaJ,cpL,cpF,Aj,fsz,Zmx,Ziq]
 | r::r2::rest=>by
  rw[wayF];simp only[cpL,cpF,Aj,fsz,true_or,if_true,ZxI g (r2::rest)]
theorem ZAn {w:List Int} (h:0 < w.length):Zde w=w[w.length - 1]'(by omega):=by
 unfold Zde;rw[List.getLastD_eq_getLast?,List.getLast?_eq_getElem?,Hj (by omega)];rfl
theorem ZrB {g:Ac}:∀ (n:Nat) (v:Int) (w:List Int),w∈wys g n v→∀ x∈w,∃ k,∃ _:k < g.Aa.length,x=((k:Nat):Int)
 | 0,v,w,h=>by simp[wys] at h
 | n+1,v,w,h=>by
  rw[wys] at h;obtain⟨i,hi,hw⟩:=List.mem_flatMap.1 h;obtain⟨k,hk,e,_⟩:=by_mem.1 hi;split at hw
  ·rw[Gw] at hw;subst hw;intro x hx;rw[Gw] at hx;subst hx;exact⟨k,hk,e⟩
  ·obtain⟨y,hy,rfl⟩:=List.mem_map.1 hw;intro x hx;rcases List.mem_cons.1 hx with rfl|hx
   ·exact⟨k,hk,e⟩
   ·exact ZrB n _ y hy x hx
theorem ZxJ {w:List Int} (h:w≠[]):Zde w∈w:=by
 have hl:0 < w.length:=List.length_pos_iff.2 h;rw[ZAn hl];exact He _
section
variable {g:Ac} (hg:g.ok) (hc:cycL g=[])
include hg hc
theorem ZpP {v:Int} (h0:0≤v) (h1:v < g.vars) {w:List Int} (hw:w∈ways g v):w≠[]:=by
 rw[Zkk hg hc h0 h1] at hw;obtain⟨k,_,hk⟩:=List.mem_flatMap.1 hw;exact ZsB hk
theorem ZAo {v:Int} (h0:0≤v) (h1:v < g.vars) {w:List Int} (hw:w∈ways g v):∃ k,∃ h:k < g.Aa.length,Zde w=((k:Nat):Int)∧Zaj g (Zde w)=g.Aa[k].right:=by
 have hne:=ZpP hg hc h0 h1 hw;obtain⟨k,hk,e⟩:=ZrB _ _ _ hw _ (ZxJ hne);exact⟨k,hk,e,by rw[e,Zaw hk]⟩
end
theorem Ztd {g:Ac}:∀ (n:Nat) (v:Int) (w:List Int),w∈wys g n v→ZaB (Zaj g (Zde w)) < 0
 | 0,v,w,h=>by simp[wys] at h
 | n+1,v,w,h=>by
  rw[wys] at h;obtain⟨i,_,hi⟩:=List.mem_flatMap.1 h;split at hi
  ·rename_i hu;rw[Gw] at hi;subst hi;exact hu
  ·obtain⟨x,hx,rfl⟩:=List.mem_map.1 hi;have ih:=Ztd n _ x hx;have hne:x≠[]:=by
    intro e;subst e;cases n with
    | zero=>simp[wys] at hx
    | succ n =>
     rw[wys] at hx;obtain⟨j,_,hj⟩:=List.mem_flatMap.1 hx;split at hj
     ·simp at hj
     ·obtain⟨y,_,hy⟩:=List.mem_map.1 hj;cases hy
   rw[ZcS i hne];exact ih
theorem ZxK (m:Int) {g:Ac}:∀ (w:List Int),w≠[]→(∀ x∈w,0≤x∧x < m)→usL m (wayF g w) (List.replicate (kN g (Zde w)) 0)=(true,List.replicate (kN g (Zde w)) 1)
 | [],h,_=>absurd rfl h
 | [r],_,h=>by
  have:=h r (by simp);rw[wayF,ZaJ,usL,usF,Hb rfl,Ha (by omega),show Zde [r]=r from rfl,ZjT];simp[usL]
 | r::r2::rest,_,h=>by
  have h0:=h r (by simp);have ih:=ZxK m (g:=g) (r2::rest) (by simp) (fun x hx=>h x (HK _ hx));rw[wayF,ZcS r (by simp),usL,usF,Hb rfl,Ha (by omega),ih];simp[usL]
theorem ZAp {g:Ac} {v:Int} {w:List Int} (hne:w≠[]) (hw:∀ x∈w,∃ k,∃ _:k < g.Aa.length,x=((k:Nat):Int)) (hs:Aj (wayF g w)≤60):Zax g (wayF g w) (ZgO g v w).right=0:=by
 have h2:=ZxK g.Aa.length (g:=g) w hne (fun x hx=>by obtain⟨k,hk,e⟩:=hw x hx;omega);rw[Zax,Ha (by rw[ZxI];omega),Hb];rw[ZhX];show ((usL _ _ (List.replicate (kN g (Zde w)) 0)).1 && (usL _ _ (List.replicate (kN g (Zde w)) 0)).2.all _)=true;rw[h2];simp
theorem Zmy {g:Ac} {v:Int}:∀ {l:List (List Int)},(∀ w∈l,Zax g (wayF g w) (ZgO g v w).right=0)→ZfB g (l.map (wayF g)) (l.map (ZgO g v))
 | [],_=>.nil
 | w::l,h=>.cons (h w (by simp)) (Zmy (fun x hx=>h x (by simp[hx])))
theorem ZkU {g:Ac} {v:Nat} (h:Zeb g v=true):(Zcf g v).length+(ways g v).length≤160∧∀ w∈ways g v,Aj (wayF g w)≤60:=by
 rw[Zeb,Hr,HQ] at h;exact⟨H3 h.1,fun w hw=>H3 (h.2 w hw)⟩
section
variable {g:Ac} (hg:g.ok) (hc:cycL g=[])
include hg hc
theorem ZkV:∀ k,k≤g.vars.toNat→(∀ u,u < k→Zeb g u=true)→ZfB g (Zdg g k) (Zcf g k)
 | 0,_,_=>.nil
 | k+1,hk,h=>by
  have ih:=ZkV k (by omega) (fun u hu=>h u (by omega));rw[Zec,Zfu];obtain⟨_,h2⟩:=ZkU (h k (by omega));refine ih.append (Zmy fun w hw=>ZAp (ZpP hg hc (by omega) (by omega) hw) (ZrB _ _ _ hw) (h2 w hw))
theorem Zmz:∀ k,k≤g.vars.toNat→∀ r∈Zcf g k,(0≤r.left∧r.left < k)∧(∃ q∈g.Aa,r.right=q.right)∧ZaB r.right < 0
 | 0,_,r,h=>by simp[Zcf] at h
 | k+1,hk,r,h=>by
  rw[Zec] at h;rcases List.mem_append.1 h with h|h
  ·have:=Zmz k (by omega) r h;exact⟨by omega,this.2⟩
  ·obtain⟨w,hw,rfl⟩:=List.mem_map.1 h;obtain⟨j,hj,_,e⟩:=ZAo hg hc (v:=(k:Int)) (by omega) (by omega) hw;refine⟨by simp only[ZgO];omega,⟨_,He hj,e⟩,Ztd _ _ _ hw⟩
theorem ZpQ (h:∀ u,u < g.vars.toNat→Zeb g u=true):(Zcf g g.vars.toNat).length≤160:=by
 have hv:=hg.vars1;obtain⟨n,hn⟩:∃ n,g.vars.toNat=n+1:=⟨g.vars.toNat - 1,by omega⟩
 have:=(ZkU (h n (by omega))).1;rw[hn,Zec,Hk,Hh];omega
theorem ZjG (h:∀ u,u < g.vars.toNat→Zeb g u=true):(Zbr g).g.ok:=by
 have hm:=Zmz hg hc g.vars.toNat (Hg _);have hv:=hg.vars1;refine⟨hg.vars1,hg.vars,hg.terms0,hg.terms,hg.start0,hg.start,ZpQ hg hc h,fun r hr=>?_,fun r hr=>(hm r hr).1.1,fun r hr=>?_,fun r hr s hs=>?_,fun r hr s hs=>?_⟩
 ·obtain⟨q,hq,e⟩:=(hm r hr).2.1;rw[e];exact hg.right q hq
 ·have:=(hm r hr).1.2;show r.left < g.vars;omega
 ·obtain⟨q,hq,e⟩:=(hm r hr).2.1;rw[e] at hs;exact hg.lo q hq s hs
 ·obtain⟨q,hq,e⟩:=(hm r hr).2.1;rw[e] at hs;exact hg.hi q hq s hs
theorem ZuO (h:∀ u,u < g.vars.toNat→Zeb g u=true):Zap g (Zbr g)=⟨0,0⟩ :=
 Zk9 hg (ZjG hg hc h) rfl (ZkV hg hc _ (Hg _) h)
theorem Zi9:∀ k,k≤g.vars.toNat→(∀ u,u < k→Zeb g u=true)→∀ l∈Zdg g k,Aj l≤60
 | 0,_,_,l,hl=>by simp[Zdg] at hl
 | k+1,hk,h,l,hl=>by
  rw[Zfu] at hl;rcases List.mem_append.1 hl with hl|hl
  ·exact Zi9 k (by omega) (fun u hu=>h u (by omega)) l hl
  ·obtain⟨w,hw,rfl⟩:=List.mem_map.1 hl;exact (ZkU (h k (by omega))).2 w hw
end
theorem Zja (g:Ac):((Zac g).code≠0∧Zcg g=(Ag,Zac g))∨(Zcg g=(Ag,⟨10, -1⟩))∨(∃ v:Nat,Zcg g=(Ag,⟨6,(v:Int)⟩)) ∨
  (g.ok∧cycL g=[]∧(∀ u,u < g.vars.toNat→Zeb g u=true)∧Zcg g=(Zbr g,⟨0,0⟩)):=by
 by_cases h:(Zac g).code=0
 ·by_cases hcy:0 < (cycL g).length
  ·exact .inr (.inl (by rw[Zcg,Hb h,Hb hcy]))
  ·cases hf:(List.range g.vars.toNat).find? (fun v=>!Zeb g v) with
   | some v=>exact .inr (.inr (.inl ⟨v,by rw[Zcg,Hb h,Ha hcy,hf]⟩))
   | none =>
    refine .inr (.inr (.inr ⟨Zbe h,List.length_eq_zero_iff.1 (by omega),fun u hu=>?_,by rw[Zcg,Hb h,Ha hcy,hf]⟩));rw[List.find?_eq_none] at hf;have:=hf u (List.mem_range.2 hu);simpa using this
 ·exact .inl ⟨h,by rw[Zcg,Ha h]⟩
theorem Zfv:Ag.fit:=⟨⟨by decide,fun r hr=>by simp[Ag] at hr⟩,by decide,fun l hl=>by simp[Ag] at hl,by decide⟩
theorem ZuP (g:Ac):(Zcg g).1.fit:=by
 rcases Zja g with ⟨_,h⟩|h|⟨v,h⟩|⟨hg,hc,ha,h⟩
 ·rw[h];exact Zfv
 ·rw[h];exact Zfv
 ·rw[h];exact Zfv
 ·rw[h];have h1:=ZpQ hg hc ha;have h2:=ZrA g g.vars.toNat;exact⟨(ZjG hg hc ha).fit,(by show (Zdg g g.vars.toNat).length≤_;omega),fun l hl=>Hq (Zi9 hg hc _ (Hg _) ha l hl) (by decide),by simp[Zbr,cnts]⟩
theorem ZmA (g:Ac):∃ r,((Zac g).code=0→Fac g.vars.toNat (Za4 g) 0 r)∧((Zac g).code=0→∀ z,r=.ok z→FInv g z z.length):=by
 by_cases h:(Zac g).code=0
 ·have hg:=Zbe h;obtain⟨r,h1,h2⟩:=Zny hg 65 _ (by omega) (Hg _) (Zkw hg);exact⟨r,fun _=>h1,fun _=>h2⟩
 ·exact⟨.error 0,fun hh=>absurd hh h,fun hh=>absurd hh h⟩
theorem Zfw:Ag.fit:=⟨⟨by decide,fun r hr=>by simp[Ag] at hr⟩,by decide,fun l hl=>by simp[Ag] at hl,by decide⟩
theorem ZnW {g:Ac} {r:Except Nat (List (List Ae))} (hz:(Zac g).code=0→∀ z,r=.ok z→FInv g z z.length) :
  ((Zac g).code≠0∧ZbV g r=(Ag,Zac g))∨(∃ i:Nat,ZbV g r=(Ag,⟨6,(i:Int)⟩)) ∨
  ∃ z x,g.ok∧FInv g z z.length∧finW z 0 [] []=.ok x∧ZbV g r=(⟨outG g z x,x.2,[]⟩,⟨0,0⟩):=by
 by_cases h:(Zac g).code=0
 ·rw[ZbV,Hb h];cases r with
  | error v=>exact .inr (.inl ⟨v,rfl⟩)
  | ok z =>
   cases hc:finW z 0 [] [] with
   | error v=>exact .inr (.inl ⟨v,by rw[ZbO];simp only[hc]⟩)
   | ok x=>exact .inr (.inr ⟨z,x,Zbe h,hz h z rfl,hc,by rw[ZbO];simp only[hc];rfl⟩)
 ·rw[ZbV,Ha h];exact .inl ⟨h,rfl⟩
theorem ZrC {g:Ac} {r:Except Nat (List (List Ae))} (hz:(Zac g).code=0→∀ z,r=.ok z→FInv g z z.length):(ZbV g r).1.fit:=by
 rcases ZnW hz with ⟨_,h⟩|⟨i,h⟩|⟨z,x,hg,hI,hx,h⟩
 ·rw[h];exact Zfw
 ·rw[h];exact Zfw
 ·rw[h];have h1:=ZBz hg hI hx;obtain⟨h2,h3⟩:=ZzU hI hx;exact⟨h1.fit,(by show x.2.length≤_;omega),fun l hl=>Hq (h3 l hl) (by decide),by simp[cnts]⟩
noncomputable def facR (g:Ac):Except Nat (List (List Ae)):=Classical.choose (ZmA g)
theorem ZnX (g:Ac):((Zac g).code=0→Fac g.vars.toNat (Za4 g) 0 (facR g))∧((Zac g).code=0→∀ z,facR g=.ok z→FInv g z z.length):=Classical.choose_spec (ZmA g)
noncomputable def pasS (k:Int) (g:Ac):Step×Zci :=
 if k=1 then ZiK g else if k=2 then Zet g else if k=3 then Zcg g else if k=4 then Zc2 g else if k=5 then ZbV g (facR g) else if k=6 then ZfF g else (Ag,⟨16,0⟩)
theorem Zte (k:Int) (g:Ac):(pasS k g).1.fit:=by
 unfold pasS;split
 ·exact Zyv g
 ·split
  ·exact Zzs
  ·split
   ·exact ZuP g
   ·split
    ·exact ZmU g
    ·split
     ·exact ZrC (ZnX g).2
     ·split
      ·exact Zqo g
      ·exact Zfw
theorem ZAq {k:Int} {g:Ac} (hf:g.fit):Af Tryz.prog 37 [I k,.d (Zbo false g)] [] (.tup [.d (ZdB false (pasS k g).1),.d (Zbu (pasS k g).2)]) []:=by
 refine Af.intro (n:=45) Tryz.func37 (hw:=?_);simp only[Zal];have h1:=Zqi hf;have h2:=Zqd (t:=false) hf;have h3:=ZnV hf;have h4:=ZhO (t:=false) hf;have h5:=ZlK hf (ZnX g).1;have h6:=Zi7 hf;unfold pasS;by_cases e1:k=1
 ·rw[Hb e1];refine VA ?_;refine Zab [] (hA:=h1) (hr:=?_);refine VA ?_;exact fin2
 rw[Ha e1];by_cases e2:k=2
 ·rw[Hb e2];refine VA ?_;refine Zab [] (hA:=h2) (hr:=?_);refine VA ?_;exact fin2
 rw[Ha e2];by_cases e3:k=3
 ·rw[Hb e3];refine VA ?_;refine Zab [] (hA:=h3) (hr:=?_);refine VA ?_;exact fin2
 rw[Ha e3];by_cases e4:k=4
 ·rw[Hb e4];refine VA ?_;refine Zab [] (hA:=h4) (hr:=?_);refine VA ?_;exact fin2
 rw[Ha e4];by_cases e5:k=5
 ·rw[Hb e5];refine VA ?_;refine Zab [] (hA:=h5) (hr:=?_);refine VA ?_;exact fin2
 rw[Ha e5];by_cases e6:k=6
 ·rw[Hb e6];refine VA ?_;refine Zab [] (hA:=h6) (hr:=?_);refine VA ?_;exact fin2
 rw[Ha e6];refine VA ?_;exact fin2
theorem ZrD {t u:Bool} {g:Ac} {ks:List Int} (hf:g.fit) (hk:ks.length≤100000000) :
  Af Tryz.prog 11 [.d (Zbo t g),.d (ints u ks)] [] (.tup [.d (ZdJ false false (ZdR pasS g ks).1),.d (Zbu (ZdR pasS g ks).2)]) [] :=
 ZmJ hf hk fun k _ g hg=>⟨ZAq hg,Zte k g⟩
section
variable {P:Int→Ac→Step×Zci}
theorem ZrE {g:Ac} {k:Int} {ks:List Int} {i:Nat} {out:List Step} (hc:(P k (Zbf g out)).2.code=0):mkC P g (k::ks) i out=mkC P g ks (i+1) (out++[(P k (Zbf g out)).1]):=by rw[mkC,Ha (fun q=>q hc)]
theorem ZrF {g:Ac} {k:Int} {ks:List Int} {i:Nat} {out:List Step} (hc:¬ (P k (Zbf g out)).2.code=0):mkC P g (k::ks) i out=([],⟨(P k (Zbf g out)).2.code,(i:Int)⟩):=by rw[mkC,Hb hc]
end
section
variable {P:Int→Ac→Step×Zci} {g:Ac} {ks:List Int} {k:Nat}
theorem ZAr (h0:(Zac g).code=0) (h8:ks.length≤8):ZdR P g ks=mkC P g ks 0 []:=by
 unfold ZdR;rw[Ha (fun q=>q h0),Ha (by omega)]
end
end Go.Proofs.YtbpmepgnjanhnaaGreat
