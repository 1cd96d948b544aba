import Derived.Test.YtbpmepgnjanhnaaGreatS1
import Derived.IntWalk
import Derived.WalkSpells
import Derived.Laws.CopyRow
import Derived.Laws.MakeOwn
import Derived.Great.FillDense
set_option linter.unusedVariables false
set_option linter.unusedSimpArgs false
set_option linter.unusedSectionVars false
namespace Go.Proofs.YtbpmepgnjanhnaaGreat
variable {P:Program} {n:Nat} {dr:Bool} {ops:Array Oper} {rest:List Oper} {log:List Rec} {K:Exit→Fr→Hp→Prop} {fr:Fr}
open Go.RowKit
structure Ty where
 size:Nat
 bytes:Nat
 row:Bool
 str:Bool
 zero:Option Value
 elem:Option Nat
 fields:List (Nat×Nat)
def tyOf (P:Program) (t:TypeId):Option Ty :=
 match P.info? t,P.underlying t with
 | some i,some ds=>some { size:=i.size,bytes:=i.bytes,row:=ds.isRow,str:=(match ds with|.string=>true|_=>false),zero:=i.zero,elem:=(match ds with|.slice e=>some e|_=>none),fields:=(match ds with|.struct fs=>fs.toList.map fun f=>(f.offset,P.cellsOf f.type)|_=>[]) }
 | _,_=>none
structure TT (P:Program) where
 rows:List Ty
 ok:rows.map some=(List.range rows.length).map (tyOf P)
theorem TT.at {P:Program} (T:TT P) {t:Nat} {y:Ty} (h:T.rows[t]? = some y):tyOf P t=some y:=by
 have h1:=Hy (fun l=>l[t]?) T.ok;obtain⟨hl,_⟩:=List.getElem?_eq_some_iff.1 h;simp only[Gg,h,JM hl,H9] at h1;simpa using h1.symm
theorem ZaH {P:Program} {t:TypeId} {y:Ty} (h:tyOf P t=some y):∃ i ds,P.info? t=some i∧P.underlying t=some ds∧i.size=y.size∧i.bytes=y.bytes∧ds.isRow=y.row∧i.zero=y.zero ∧
  (∀ e,y.elem=some e→ds=.slice e)∧(y.str=true→ds=.string)∧(y.fields≠[]→∃ fs,ds=.struct fs∧y.fields=fs.toList.map fun f=>(f.offset,P.cellsOf f.type)):=by
 unfold tyOf at h;cases hi:P.info? t with
 | none=>rw[hi] at h;cases h
 | some i =>
  cases hu:P.underlying t with
  | none=>rw[hi,hu] at h;cases h
  | some ds =>
   rw[hi,hu] at h;simp only[Hx] at h;subst h;refine⟨i,ds,rfl,rfl,rfl,rfl,rfl,rfl,fun e he=>?_,fun hs=>?_,fun hf=>?_⟩
   ·cases ds <;> simp_all
   ·cases ds <;> simp_all
   ·cases ds with
    | struct fs=>exact⟨fs,rfl,rfl⟩
    | _=>simp at hf
section
variable {h:Hp}
def ZaG (x:Operand) (v:V):List (Nat×V):=match x with
 | .tmp t=>[(t,v)]
 | _=>[]
def Zaq:List Operand→List V→List (Nat×V)
 | x::xs,v::vs=>ZaG x v++Zaq xs vs
 | _,_=>[]
def oevs (fr:Fr):List Operand→List V→Prop
 | [],[]=>True
 | x::xs,v::vs=>oev fr x=v∧oevs fr xs vs
 | _,_=>False
theorem ZcE {fr fr':Fr} {x:Operand} {v:V} (hx:oev fr x=v) (hi:∀ p∈ZaG x v,fget fr' p.1=p.2):oev fr' x=v:=by
 cases x with
 | tmp t=>simpa[oev,ZaG] using hi
 | const c=>rw[←hx];cases c <;> rfl
 | global g=>rw[←hx];rfl
 | func f=>rw[←hx];rfl
theorem ZbN {fr:Fr} {x:Operand} {v:V} (hx:oev fr x=v):∀ p∈ZaG x v,fget fr p.1=p.2:=by
 cases x <;> simp[ZaG]
 simpa[oev] using hx
theorem Zcy {fr fr':Fr}:∀ {xs:List Operand} {vs:List V},oevs fr xs vs→(∀ p∈Zaq xs vs,fget fr' p.1=p.2)→oevs fr' xs vs
 | [],[],_,_=>trivial
 | x::xs,v::vs,h1,h2=>by
  simp only[oevs,Zaq,HV] at h1 h2 ⊢;exact⟨ZcE h1.1 (fun p hp=>h2 p (.inl hp)),Zcy h1.2 (fun p hp=>h2 p (.inr hp))⟩
 | [],_::_,h1,_=>by simp[oevs] at h1
 | _::_,[],h1,_=>by simp[oevs] at h1
theorem ZbK {fr:Fr}:∀ {xs:List Operand} {vs:List V},oevs fr xs vs→∀ p∈Zaq xs vs,fget fr p.1=p.2
 | [],[],_=>by simp[Zaq]
 | x::xs,v::vs,h1=>by
  simp only[oevs,Zaq,HV] at h1 ⊢;rintro p (hp|hp)
  ·exact ZbN h1.1 p hp
  ·exact ZbK h1.2 p hp
 | [],_::_,h1=>by simp[oevs] at h1
 | _::_,[],h1=>by simp[oevs] at h1
theorem An.oev {G:Ctx} {E:Env} {a:Act} {w:World} (C:An G E fr h a w) {x:Operand} {v:V} (hx:oev fr x=v) (hone:∀ c,x=.const c→c.oneCell'=true):V.Rep E h (bars E h G.o) w v (a.eval x)∧∀ k∈v.keys,(Ah h k).isSome=true:=by
 subst hx;cases x with
 | tmp t=>exact⟨C.frame t,C.closed t⟩
 | const c =>
  have:=hone c rfl;cases c <;> first
   | (simp[Value.oneCell'] at this;done)
   | exact⟨by simp[Proofs.YtbpmepgnjanhnaaGreat.oev,V.Rep,D.RepV,D.Rep,Act.eval,Value.oneCell'],by simp[Proofs.YtbpmepgnjanhnaaGreat.oev,V.keys]⟩
 | global g=>exact⟨by simp[Proofs.YtbpmepgnjanhnaaGreat.oev,V.Rep],by simp[Proofs.YtbpmepgnjanhnaaGreat.oev,V.keys]⟩
 | func f=>exact⟨by simp[Proofs.YtbpmepgnjanhnaaGreat.oev,V.Rep,V.Reps,Act.eval],by simp[Proofs.YtbpmepgnjanhnaaGreat.oev,V.keys,V.keyss]⟩
def ZaP:Operand→Bool
 | .const (.agg _)|.const (.tuple _)=>false
 | _=>true
theorem Zao {x:Operand} (hx:ZaP x=true):∀ c,x=.const c→c.oneCell'=true:=by
 rintro c rfl;cases c <;> simp_all [ZaP,Value.oneCell']
def gIns (ops:Array Oper):Option (Nat×Bool)→List (Nat×V)
 | none=>[]
 | some (j,want)=>match (ops[j]?).bind (·.dst) with
  | some s=>[(s,.d (.raw (.bool want)))]
  | none=>[(0,.fn (.func 0) [.junk] [])]
def gOk (ops:Array Oper) (fr:Fr):Option (Nat×Bool)→Prop
 | none=>True
 | some (j,want)=>match (ops[j]?).bind (·.dst) with
  | some s=>fget fr s=.d (.raw (.bool want))
  | none=>False
theorem ZdL {g:Option (Nat×Bool)} (hg:gOk ops fr g):∀ p∈gIns ops g,fget fr p.1=p.2:=by
 cases g with
 | none=>simp[gIns]
 | some q =>
  obtain⟨j,want⟩:=q;unfold gOk at hg;unfold gIns;simp only at hg ⊢;cases hs:(ops[j]?).bind (·.dst) with
  | none=>rw[hs] at hg;exact hg.elim
  | some s=>rw[hs] at hg;simpa using hg
theorem Zh5 {fr fr':Fr} {g:Option (Nat×Bool)} (hg:gOk ops fr g) (hi:∀ p∈gIns ops g,fget fr' p.1=p.2):gOk ops fr' g:=by
 cases g with
 | none=>trivial
 | some q =>
  obtain⟨j,want⟩:=q;unfold gOk at hg ⊢;unfold gIns at hi;simp only at hg hi ⊢;cases hs:(ops[j]?).bind (·.dst) with
  | none=>rw[hs] at hg;exact hg.elim
  | some s=>rw[hs] at hi;simpa using hi
theorem Zcs {G:Ctx} {E:Env} {a:Act} {w:World} (C:An G E fr h a w) {o:Oper} (hg:gOk ops fr o.guard):Region.wanted o (yielded ops a.tmps)=true:=by
 unfold Region.wanted;cases hq:o.guard with
 | none=>rfl
 | some q =>
  obtain⟨j,want⟩:=q;rw[hq] at hg;unfold gOk at hg;simp only at hg ⊢;cases hs:(ops[j]?).bind (·.dst) with
  | none=>rw[hs] at hg;exact hg.elim
  | some s =>
   rw[hs] at hg;simp only at hg;have hf:=C.frame s;rw[hg] at hf;simp only[V.Rep,D.RepV,D.Rep,Hz,HA] at hf;have ht:a.tmps[s]? = some (.bool want):=by
    have:=hf.1;simp only[Jd] at this;cases hb:a.tmps[s]? with
    | none=>rw[hb] at this;simp[undef] at this
    | some u=>rw[hb] at this;simp at this;rw[this]
   unfold yielded;rw[hs];simp[ht]
theorem LStep.pure {PS:List PanicEntry→Fr→Hp→Prop} {o:Oper} {d:Nat} {g:Option (Nat×Bool)} (hd:o.dst=some d) (hdn:Nat.blt d n=true) (hg:o.guard=g) (hgk:gOk ops fr g) (ins:List (Nat×V)) (objs:List (Nat×Option Ob)) (v:V)
  (H:∀ (G:Ctx) (E:Env) (fr:Fr) (h:Hp) (a:Act) (w:World),An G E fr h a w→(∀ p∈ins,fget fr p.1=p.2)→(∀ p∈objs,Ah h p.1=p.2) →
   ∃ u,(execOp a.eval o).run P w=.ok (.value u) w∧V.Rep E h (bars E h G.o) w v u∧∀ k∈v.keys,(Ah h k).isSome=true):LStep P n ops PS o (gIns ops g++ins) objs v []:=by
 intro G E fr' h a w K Q _ hn C hi ho hK;have hgo:gOk ops fr' o.guard:=by rw[hg];exact Zh5 hgk (fun p hp=>hi p (List.mem_append.2 (.inl hp)))
 obtain⟨u,h1,h2,h3⟩:=H G E fr' h a w C (fun p hp=>hi p (List.mem_append.2 (.inr hp))) ho;unfold wpS;rw[Hb (Zcs C hgo)];refine .inl ?_;unfold Oper.wp;rw[h1];simp only[Oper.upon];refine hK E _ w ?_;rw[hd];exact C.put (by rw[hn];simpa[HU] using hdn) h2 h3
theorem LStep.skip {PS:List PanicEntry→Fr→Hp→Prop} {o:Oper} {j:Nat} {want:Bool} {s:Nat} (hd:∀ d,o.dst=some d→Nat.blt d n=true) (hg:o.guard=some (j,want)) (hs:(ops[j]?).bind (·.dst)=some s):LStep P n ops PS o [(s,.d (.raw (.bool !want)))] [] .junk []:=by
 intro G E fr' h a w K Q _ hn C hi _ hK;have hf:=C.frame s;rw[hi (s,.d (.raw (.bool !want))) (by simp)] at hf;simp only[V.Rep,D.RepV,D.Rep,Hz,HA] at hf;have ht:a.tmps[s]? = some (.bool !want):=by
  have:=hf.1;simp only[Jd] at this;cases hb:a.tmps[s]? with
  | none=>rw[hb] at this;simp[undef] at this
  | some u=>rw[hb] at this;simp at this;rw[this]
 have hw:¬ Region.wanted o (yielded ops a.tmps)=true:=by
  unfold Region.wanted yielded;rw[hg];simp only[hs,Jl,ht];cases want <;> simp
 unfold wpS;rw[Ha hw];refine hK E _ w ?_;cases hdd:o.dst with
 | none=>exact C.putNone _
 | some d=>exact C.put (by rw[hn];simpa[HU] using hd d hdd) (by simp[V.Rep]) (by simp[V.keys])
theorem ZaA {o:Oper} {ins:List (Nat×V)} {objs:List (Nat×Option Ob)} {v:V} {upd:List (Nat×Ob)} (hs:LStep P n ops (fun ch=>K (.panic ch)) o ins objs v upd) (h1:∀ p∈ins,fget fr p.1=p.2) (h2:∀ p∈objs,Ah h p.1=p.2)
  (h3:dops P n dr ops rest (⟨ins.map Prod.fst,o.dst.toList,objs.map Prod.fst,upd.map Prod.fst⟩::log) K (dput o.dst v fr) (upd++h)):dops P n dr ops (o::rest) log K fr h:=.inl ⟨ins,objs,v,upd,hs,h1,h2,h3⟩
theorem ZcK (hK:K .normal fr h):dops P n false ops [] log K fr h:=⟨by simp,hK⟩
theorem ZvD (ho:Zga ops.toList log.reverse=true) (hK:K .normal fr h):dops P n true ops [] log K fr h:=⟨fun _=>ho,hK⟩
variable {d:Nat} {ty:TypeId} {pos:String} {after:Array Edge} {g:Option (Nat×Bool)}
theorem ZEv {dst:Option Tmp} {op:Op} {j:Nat} {want:Bool} {s:Nat} {b:Bool} (hs:(ops[j]?).bind (·.dst)=some s:=by exact rfl) (hb:fget fr s=.d (.raw (.bool b)):=by exact rfl) (hbw:b=!want:=by exact Vh) (hd:∀ d,dst=some d→Nat.blt d n=true:=by simp)
  (hr:dops P n dr ops rest (⟨[s],dst.toList,[],[]⟩::log) K (dput dst .junk fr) h):dops P n dr ops (⟨dst,op,ty,pos,after,some (j,want)⟩::rest) log K fr h :=
 ZaA (ins:=[(s,.d (.raw (.bool !want)))]) (objs:=[]) (LStep.skip hd rfl hs) (by simp;rw[hb,hbw]) (by simp) hr
theorem ZEw {op:Op} (x:Operand) (v:V) (hop:∀ ρ:Operand→Value,execOp ρ ⟨some d,op,ty,pos,after,g⟩=.pure (.value (ρ x))) (hdn:Nat.blt d n=true) (hg:gOk ops fr g) (hx:oev fr x=v) (h1:ZaP x=true)
  (hr:dops P n dr ops rest (⟨(gIns ops g++ZaG x v).map Prod.fst,[d],[],[]⟩::log) K ((d,v)::fr) h):dops P n dr ops (⟨some d,op,ty,pos,after,g⟩::rest) log K fr h:=by
 refine ZaA (ins:=gIns ops g++ZaG x v) (objs:=[]) (v:=v) (upd:=[]) (LStep.pure rfl hdn rfl hg (ZaG x v) [] v fun G E fr' h' a w C hi _=>?_) (fun p hp=>?_) (by simp) hr
 ·obtain⟨r1,r2⟩:=C.oev (ZcE hx hi) (Zao h1);exact⟨_,by rw[hop];rfl,r1,r2⟩
 ·rcases List.mem_append.1 hp with hp|hp
  ·exact ZdL hg p hp
  ·exact ZbN hx p hp
theorem ZEx {x:Operand} {v:V} (hdn:Nat.blt d n=true:=by exact rfl) (hg:gOk ops fr g:=by exact Vf) (hx:oev fr x=v:=by exact Vu) (h1:ZaP x=true:=by exact rfl)
  (hr:dops P n dr ops rest (⟨(gIns ops g++ZaG x v).map Prod.fst,[d],[],[]⟩::log) K ((d,v)::fr) h):dops P n dr ops (⟨some d,.move x,ty,pos,after,g⟩::rest) log K fr h :=
 ZEw x v (fun _=>rfl) hdn hg hx h1 hr
theorem ZBw {x:Operand} {v:V} (hdn:Nat.blt d n=true:=by exact rfl) (hg:gOk ops fr g:=by exact Vf) (hx:oev fr x=v:=by exact Vu) (h1:ZaP x=true:=by exact rfl)
  (hr:dops P n dr ops rest (⟨(gIns ops g++ZaG x v).map Prod.fst,[d],[],[]⟩::log) K ((d,v)::fr) h):dops P n dr ops (⟨some d,.assign x,ty,pos,after,g⟩::rest) log K fr h :=
 ZEw x v (fun _=>rfl) hdn hg hx h1 hr
def raws (us:List Value):List V:=us.map fun u=>.d (.raw u)
theorem Zr9 {op:Op} (xs:List Operand) (us:List Value) (u:Value) (hop:∀ (ρ:Operand→Value) (w:World),xs.map ρ=us→(execOp ρ ⟨some d,op,ty,pos,after,g⟩).run P w=.ok (.value u) w) (hu:u.oneCell'=true)
  (hdn:Nat.blt d n=true) (hg:gOk ops fr g) (hx:oevs fr xs (raws us)) (h1:xs.all ZaP=true)
  (hr:dops P n dr ops rest (⟨(gIns ops g++Zaq xs (raws us)).map Prod.fst,[d],[],[]⟩::log) K ((d,.d (.raw u))::fr) h):dops P n dr ops (⟨some d,op,ty,pos,after,g⟩::rest) log K fr h:=by
 refine ZaA (ins:=gIns ops g++Zaq xs (raws us)) (objs:=[]) (v:=.d (.raw u)) (upd:=[]) (LStep.pure rfl hdn rfl hg (Zaq xs (raws us)) [] _ fun G E fr' h' a w C hi _=>?_) (fun p hp=>?_) (by simp) hr
 ·have hx':=Zcy hx hi;have he:xs.map a.eval=us:=by
   clear hx hi hr hop
   induction xs generalizing us with
   | nil=>cases us <;> simp_all [oevs,raws]
   | cons x xs ih =>
    cases us with
    | nil=>simp[oevs,raws] at hx'
    | cons u us =>
     simp only[raws,Hm,oevs] at hx';simp only[GG,Hr] at h1;obtain⟨r1,_⟩:=C.oev hx'.1 (Zao h1.1);simp only[V.Rep,D.RepV,D.Rep,Hz,HA] at r1;simp only[Hm,r1.1];rw[ih us h1.2 hx'.2]
  exact⟨u,hop _ w he,by simp[V.Rep,D.RepV,D.Rep,hu],by simp[V.keys]⟩
 ·rcases List.mem_append.1 hp with hp|hp
  ·exact ZdL hg p hp
  ·exact ZbK hx p hp
end
section
variable {h:Hp}
variable {d:Nat} {ty:TypeId} {pos:String} {after:Array Edge} {g:Option (Nat×Bool)}
abbrev I (a:Int):V:=.d (.raw (.int .i64 a))
abbrev B (b:Bool):V:=.d (.raw (.bool b))
abbrev Str (s:ByteArray):V:=.d (.raw (.string s))
abbrev nilS:V:=.d (.raw (.slice none 0 0))
def notAgg:V→Bool
 | .agg _|.junk=>false
 | _=>true
theorem Zap {x:Operand} {v:V} (hx:oev fr x=v) (hv:notAgg v=true):ZaP x=true:=by
 subst hx;cases x with
 | const c=>cases c <;> first|rfl|(simp[oev,notAgg] at hv)
 | _=>rfl
theorem Zqx {s:Int} (h1 : -9223372036854775808≤s) (h2:s≤9223372036854775807):IntKind.i64.wrap s=s:=IntWalk.i64_in s ⟨h1,h2⟩
theorem Zjo {x y:Operand} {yt xt:TypeId} {bop:BinOp} {k:IntKind} {a c:Int} {u:Value} (hu:u.oneCell'=true) (hrun:∀ w,(binOp bop xt (.int k a) (.int k c)).run P w=.ok u w)
  (hdn:Nat.blt d n=true) (hg:gOk ops fr g) (hx:oev fr x=.d (.raw (.int k a))) (hy:oev fr y=.d (.raw (.int k c)))
  (hr:dops P n dr ops rest (⟨(gIns ops g++Zaq [x,y] (raws [.int k a,.int k c])).map Prod.fst,[d],[],[]⟩::log) K ((d,.d (.raw u))::fr) h):dops P n dr ops (⟨some d,.binOp bop xt x y yt,ty,pos,after,g⟩::rest) log K fr h:=by
 refine Zr9 [x,y] [.int k a,.int k c] u (fun ρ w hρ=>?_) hu hdn hg ⟨hx,hy,trivial⟩ ?_ hr
 ·simp only[Hm,HF,Hz,HA] at hρ;have e1:(eqGuard bop xt x y (ρ x) (ρ y)).run P w=.ok () w:=by
   rw[hρ.1,hρ.2];unfold eqGuard;cases bop <;> rfl
  simp only[execOp,Sem.run_bind,e1,Result.andThen_ok];rw[hρ.1,hρ.2,hrun];simp
 ·simp[Zap hx rfl,Zap hy rfl]
theorem ZFc {x y:Operand} {xt yt:TypeId} {a c:Int} (hdn:Nat.blt d n=true:=by exact rfl) (hg:gOk ops fr g:=by exact Vf) (hx:oev fr x=I a:=by exact rfl) (hy:oev fr y=I c:=by exact rfl) (h1 : -9223372036854775808≤a+c:=by exact Vm) (h2:a+c≤9223372036854775807:=by exact Vm)
  (hr:dops P n dr ops rest (⟨(gIns ops g++Zaq [x,y] (raws [.int .i64 a,.int .i64 c])).map Prod.fst,[d],[],[]⟩::log) K ((d,I (a+c))::fr) h):dops P n dr ops (⟨some d,.binOp .add xt x y yt,ty,pos,after,g⟩::rest) log K fr h :=
 Zjo (a:=a) (c:=c) rfl (fun w=>by simp[binOp,Op.intArith,Zqx h1 h2]) hdn hg hx hy hr
theorem ZFd {x y:Operand} {xt yt:TypeId} {a c:Int} (hdn:Nat.blt d n=true:=by exact rfl) (hg:gOk ops fr g:=by exact Vf) (hx:oev fr x=I a:=by exact rfl) (hy:oev fr y=I c:=by exact rfl) (h1 : -9223372036854775808≤a - c:=by exact Vm) (h2:a - c≤9223372036854775807:=by exact Vm)
  (hr:dops P n dr ops rest (⟨(gIns ops g++Zaq [x,y] (raws [.int .i64 a,.int .i64 c])).map Prod.fst,[d],[],[]⟩::log) K ((d,I (a - c))::fr) h):dops P n dr ops (⟨some d,.binOp .sub xt x y yt,ty,pos,after,g⟩::rest) log K fr h :=
 Zjo (a:=a) (c:=c) rfl (fun w=>by simp[binOp,Op.intArith,Zqx h1 h2]) hdn hg hx hy hr
theorem ZFe {x y:Operand} {xt yt:TypeId} {a c:Int} (hdn:Nat.blt d n=true:=by exact rfl) (hg:gOk ops fr g:=by exact Vf) (hx:oev fr x=I a:=by exact rfl) (hy:oev fr y=I c:=by exact rfl) (h1 : -9223372036854775808≤a * c:=by exact Vm) (h2:a * c≤9223372036854775807:=by exact Vm)
  (hr:dops P n dr ops rest (⟨(gIns ops g++Zaq [x,y] (raws [.int .i64 a,.int .i64 c])).map Prod.fst,[d],[],[]⟩::log) K ((d,I (a * c))::fr) h):dops P n dr ops (⟨some d,.binOp .mul xt x y yt,ty,pos,after,g⟩::rest) log K fr h :=
 Zjo (a:=a) (c:=c) rfl (fun w=>by simp[binOp,Op.intArith,Zqx h1 h2]) hdn hg hx hy hr
def cmpB:BinOp→Int→Int→Option Bool
 | .lss,a,c=>some (decide (a < c))
 | .leq,a,c=>some (decide (a≤c))
 | .gtr,a,c=>some (decide (c < a))
 | .geq,a,c=>some (decide (c≤a))
 | .eql,a,c=>some (decide (a=c))
 | .neq,a,c=>some (!decide (a=c))
 | _,_,_=>none
theorem ZFf {x y:Operand} {xt yt:TypeId} {bop:BinOp} {k:IntKind} {a c:Int} {b:Bool} (hdn:Nat.blt d n=true:=by exact rfl) (hg:gOk ops fr g:=by exact Vf) (hx:oev fr x=.d (.raw (.int k a)):=by exact rfl) (hy:oev fr y=.d (.raw (.int k c)):=by exact rfl) (hb:cmpB bop a c=some b:=by exact rfl)
  (hr:dops P n dr ops rest (⟨(gIns ops g++Zaq [x,y] (raws [.int k a,.int k c])).map Prod.fst,[d],[],[]⟩::log) K ((d,B b)::fr) h):dops P n dr ops (⟨some d,.binOp bop xt x y yt,ty,pos,after,g⟩::rest) log K fr h:=by
 refine Zjo (k:=k) (a:=a) (c:=c) (u:=.bool b) rfl (fun w=>?_) hdn hg hx hy hr;have e1:(a == c)=decide (a=c):=by by_cases h:a=c <;> simp[h]
 have e2:(a != c)=!decide (a=c):=by by_cases h:a=c <;> simp[h]
 cases bop <;> simp only[cmpB,Hx,reduceCtorEq] at hb <;> rw[←hb] <;> simp only[binOp,Op.intCmp,ne_eq,not_true_eq_false,if_false,Sem.run_pure,e1,e2] <;> rfl
theorem ZFg {x:Operand} {xt:TypeId} {b:Bool} (hdn:Nat.blt d n=true:=by exact rfl) (hg:gOk ops fr g:=by exact Vf) (hx:oev fr x=B b:=by exact rfl)
  (hr:dops P n dr ops rest (⟨(gIns ops g++Zaq [x] (raws [.bool b])).map Prod.fst,[d],[],[]⟩::log) K ((d,B (!b))::fr) h):dops P n dr ops (⟨some d,.unOp .not xt x,ty,pos,after,g⟩::rest) log K fr h:=by
 refine Zr9 [x] [.bool b] (.bool !b) (fun ρ w hρ=>?_) rfl hdn hg ⟨hx,trivial⟩ ?_ hr
 ·simp only[Hm,HF,Hz,HA] at hρ;simp[execOp,hρ,Op.unary]
 ·simp[Zap hx rfl]
theorem ZFh {x:Operand} {xt:TypeId} {a:Int} (hdn:Nat.blt d n=true:=by exact rfl) (hg:gOk ops fr g:=by exact Vf) (hx:oev fr x=I a:=by exact rfl) (h1 : -9223372036854775807≤a:=by exact Vm) (h2:a≤9223372036854775807:=by exact Vm)
  (hr:dops P n dr ops rest (⟨(gIns ops g++Zaq [x] (raws [.int .i64 a])).map Prod.fst,[d],[],[]⟩::log) K ((d,I (-a))::fr) h):dops P n dr ops (⟨some d,.unOp .neg xt x,ty,pos,after,g⟩::rest) log K fr h:=by
 refine Zr9 [x] [.int .i64 a] (.int .i64 (-a)) (fun ρ w hρ=>?_) rfl hdn hg ⟨hx,trivial⟩ ?_ hr
 ·simp only[Hm,HF,Hz,HA] at hρ;have:IntKind.i64.wrap (-a) = -a:=Zqx (by omega) (by omega)
  simp[execOp,hρ,Op.unary,Op.intArith,this]
 ·simp[Zap hx rfl]
def sel {α:Type} (t:Bool) (x y:α):α:=match t with
 | true=>x
 | false=>y
def Zlo:V→Bool
 | .ptr ..|.eptr ..=>true
 | .fn (.func _) _ _=>true
 | _=>false
theorem ZEy {c x y:Operand} {b:Bool} {v:V} (t:Bool) (hdn:Nat.blt d n=true:=by exact rfl) (hg:gOk ops fr g:=by exact Vf) (hc:oev fr c=B b:=by exact rfl) (hb:b=t:=by exact Vh) (hv:oev fr (sel t x y)=v:=by exact Vu) (h1:ZaP (sel t x y)=true:=by exact rfl)
  (hr:dops P n dr ops rest (⟨(gIns ops g++(ZaG c (B b)++ZaG (sel t x y) v)).map Prod.fst,[d],[],[]⟩::log) K ((d,v)::fr) h):dops P n dr ops (⟨some d,.pick c x y,ty,pos,after,g⟩::rest) log K fr h:=by
 subst hb;refine ZaA (ins:=gIns ops g++(ZaG c (B b)++ZaG (sel b x y) v)) (objs:=[]) (v:=v) (upd:=[]) (LStep.pure rfl hdn rfl hg _ [] v fun G E fr' h' a w C hi _=>?_) (fun p hp=>?_) (by simp) hr
 ·have hc':=ZcE hc (fun p hp=>hi p (List.mem_append.2 (.inl hp)));have q:ZaP c=true:=Zap hc rfl;obtain⟨r1,_⟩:=C.oev hc' (Zao q);simp only[V.Rep,D.RepV,D.Rep,Hz,HA] at r1;obtain⟨s1,s2⟩:=C.oev (ZcE hv (fun p hp=>hi p (List.mem_append.2 (.inr hp)))) (Zao h1);refine⟨_,?_,s1,s2⟩;cases b <;> simp[execOp,r1.1,asBool,sel]
 ·rcases List.mem_append.1 hp with hp|hp
  ·exact ZdL hg p hp
  ·rcases List.mem_append.1 hp with hp|hp
   ·exact ZbN hc p hp
   ·exact ZbN hv p hp
theorem d_un {op:Op} (x:Operand) (v v':V) (objs:List (Nat×Option Ob)) (ho:∀ p∈objs,Ah h p.1=p.2) (hone:ZaP x=true)
  (H:∀ (G:Ctx) (E:Env) (fr:Fr) (h:Hp) (a:Act) (w:World),An G E fr h a w→(∀ p∈objs,Ah h p.1=p.2)→V.Rep E h (bars E h G.o) w v (a.eval x)→(∀ k∈v.keys,(Ah h k).isSome=true) →
   ∃ u,(execOp a.eval ⟨some d,op,ty,pos,after,g⟩).run P w=.ok (.value u) w∧V.Rep E h (bars E h G.o) w v' u∧∀ k∈v'.keys,(Ah h k).isSome=true)
  (hdn:Nat.blt d n=true) (hg:gOk ops fr g) (hx:oev fr x=v)
  (hr:dops P n dr ops rest (⟨(gIns ops g++ZaG x v).map Prod.fst,[d],objs.map Prod.fst,[]⟩::log) K ((d,v')::fr) h):dops P n dr ops (⟨some d,op,ty,pos,after,g⟩::rest) log K fr h:=by
 refine ZaA (ins:=gIns ops g++ZaG x v) (objs:=objs) (v:=v') (upd:=[]) (LStep.pure rfl hdn rfl hg (ZaG x v) objs v' fun G E fr' h' a w C hi ho'=>?_) (fun p hp=>?_) ho hr
 ·obtain⟨r1,r2⟩:=C.oev (ZcE hx hi) (Zao hone);exact H G E fr' h' a w C ho' r1 r2
 ·rcases List.mem_append.1 hp with hp|hp
  ·exact ZdL hg p hp
  ·exact ZbN hx p hp
theorem ZEz {op:Op} (x y:Operand) (v:V) (k:IntKind) (c:Int) (v':V) (objs:List (Nat×Option Ob)) (ho:∀ p∈objs,Ah h p.1=p.2) (hone:ZaP x=true)
  (H:∀ (G:Ctx) (E:Env) (fr:Fr) (h:Hp) (a:Act) (w:World),An G E fr h a w→(∀ p∈objs,Ah h p.1=p.2)→V.Rep E h (bars E h G.o) w v (a.eval x)→(∀ k∈v.keys,(Ah h k).isSome=true)→a.eval y=.int k c →
   ∃ u,(execOp a.eval ⟨some d,op,ty,pos,after,g⟩).run P w=.ok (.value u) w∧V.Rep E h (bars E h G.o) w v' u∧∀ k∈v'.keys,(Ah h k).isSome=true)
  (hdn:Nat.blt d n=true) (hg:gOk ops fr g) (hx:oev fr x=v) (hy:oev fr y=.d (.raw (.int k c)))
  (hr:dops P n dr ops rest (⟨(gIns ops g++(ZaG x v++ZaG y (.d (.raw (.int k c))))).map Prod.fst,[d],objs.map Prod.fst,[]⟩::log) K ((d,v')::fr) h):dops P n dr ops (⟨some d,op,ty,pos,after,g⟩::rest) log K fr h:=by
 refine ZaA (ins:=gIns ops g++(ZaG x v++ZaG y (.d (.raw (.int k c))))) (objs:=objs) (v:=v') (upd:=[]) (LStep.pure rfl hdn rfl hg _ objs v' fun G E fr' h' a w C hi ho'=>?_) (fun p hp=>?_) ho hr
 ·obtain⟨r1,r2⟩:=C.oev (ZcE hx (fun p hp=>hi p (List.mem_append.2 (.inl hp)))) (Zao hone);have q:ZaP y=true:=Zap hy rfl;obtain⟨s1,_⟩:=C.oev (ZcE hy (fun p hp=>hi p (List.mem_append.2 (.inr hp)))) (Zao q);simp only[V.Rep,D.RepV,D.Rep,Hz,HA] at s1;exact H G E fr' h' a w C ho' r1 r2 s1.1
 ·rcases List.mem_append.1 hp with hp|hp
  ·exact ZdL hg p hp
  ·rcases List.mem_append.1 hp with hp|hp
   ·exact ZbN hx p hp
   ·exact ZbN hy p hp
theorem ZyY {x:Operand} {vs:List V} {i:Nat} {v:V} (hdn:Nat.blt d n=true:=by exact rfl) (hg:gOk ops fr g:=by exact Vf) (hx:oev fr x=.tup vs:=by exact rfl) (hi:vs[i]? = some v:=by exact rfl)
  (hr:dops P n dr ops rest (⟨(gIns ops g++ZaG x (.tup vs)).map Prod.fst,[d],[],[]⟩::log) K ((d,v)::fr) h):dops P n dr ops (⟨some d,.extract x i,ty,pos,after,g⟩::rest) log K fr h:=by
 have hone:ZaP x=true:=Zap hx rfl;refine d_un x (.tup vs) v [] (by simp) hone (fun G E fr h a w C _ r hk=>?_) hdn hg hx hr;simp only[V.Rep] at r;obtain⟨us,h1,h2⟩:=r;obtain⟨u,h3,h4⟩:=h2.get hi;refine⟨u,?_,h4,fun k hkk=>hk k ?_⟩
 ·simp[execOp,h1,Instr.extract,h3]
 ·simp only[V.keys];exact V.keyss_mem.2 ⟨v,Jo hi,hkk⟩
theorem ZvE {x:Operand} {v:V} (hdn:Nat.blt d n=true:=by exact rfl) (hg:gOk ops fr g:=by exact Vf) (hx:oev fr x=v:=by exact Vu) (hv:Zlo v=true:=by exact rfl)
  (hr:dops P n dr ops rest (⟨(gIns ops g++ZaG x v).map Prod.fst,[d],[],[]⟩::log) K ((d,v)::fr) h):dops P n dr ops (⟨some d,.nilCheck x,ty,pos,after,g⟩::rest) log K fr h:=by
 have hone:ZaP x=true:=Zap hx (by cases v <;> simp_all [Zlo,notAgg]);refine d_un x v v [] (by simp) hone (fun G E fr h a w C _ r hk=>⟨a.eval x,?_,r,hk⟩) hdn hg hx hr;cases v with
 | ptr k off=>simp only[V.Rep] at r;simp[execOp,r]
 | eptr t sz es i off=>simp only[V.Rep] at r;obtain⟨b,o,us,h1,_⟩:=r;simp[execOp,h1]
 | fn f fs cs =>
  simp only[V.Rep] at r;obtain⟨p,q,h1,_⟩:=r;cases f with
  | func f=>simp[execOp,h1]
  | _=>simp[Zlo] at hv
 | _=>simp[Zlo] at hv
variable (T:TT P)
theorem Zg9 {t:TypeId} {y:Ty} {f off sz:Nat} (ht:T.rows[t]? = some y) (hf:y.fields[f]? = some (off,sz)) (hsz:sz≠0) (b o:Nat) (w:World) :
  (Instr.fieldAt t (.pointer (some ⟨b,o,none⟩)) f).run P w=.ok (.pointer (some ⟨b,o+off,none⟩)) w:=by
 obtain⟨i,ds,h1,h2,_,_,_,_,_,_,h9⟩:=ZaH (T.at ht);obtain⟨fs,rfl,h10⟩:=h9 (by intro e;rw[e] at hf;simp at hf);rw[h10] at hf;simp only[Gg,JN,JV,Jz] at hf;obtain⟨fd,hfd,hoff,hs⟩:=hf;have hso:(sizeOf fd.type).run P w=.ok sz w:=by
  unfold sizeOf typeInfo;have:P.cellsOf fd.type=sz:=hs
  unfold Program.cellsOf at this;cases hq:P.info? fd.type with
  | none=>rw[hq] at this;simp at this;exact absurd this.symm hsz
  | some j=>rw[hq] at this;simp at this;simp[hq,this]
 have hp:(fieldPlace ⟨b,o,none⟩ fd).run P w=.ok ⟨b,o+off,none⟩ w:=by
  unfold fieldPlace;rw[Sem.run_bind,hso];simp only[Result.andThen_ok];rw[Ha hsz];simp[Addr.add_mid,hoff]
 simp only[Instr.fieldAt,Sem.run_bind,run_underlying h2,Result.andThen_ok,hfd,Instr.sureAddr,Sem.run_pure,hp]
theorem Zlp {x:Operand} {st f:Nat} {y:Ty} {k off fo sz o':Nat} (hdn:Nat.blt d n=true:=by exact rfl) (hg:gOk ops fr g:=by exact Vf) (hx:oev fr x=.ptr k off:=by exact rfl) (ht:T.rows[st]? = some y:=by exact rfl) (hf:y.fields[f]? = some (fo,sz):=by exact rfl) (hsz:Nat.beq sz 0=false:=by exact rfl) (ho:off+fo=o':=by exact Vu)
  (hr:dops P n dr ops rest (⟨(gIns ops g++ZaG x (.ptr k off)).map Prod.fst,[d],[],[]⟩::log) K ((d,.ptr k o')::fr) h):dops P n dr ops (⟨some d,.fieldAddr st x f,ty,pos,after,g⟩::rest) log K fr h:=by
 subst ho;have hone:ZaP x=true:=Zap hx rfl;refine d_un x (.ptr k off) (.ptr k (off+fo)) [] (by simp) hone (fun G E fr h a w C _ r hk=>?_) hdn hg hx hr;simp only[V.Rep] at r;refine⟨.pointer (some ⟨E.blk k,off+fo,none⟩),?_,by simp only[V.Rep],by simpa[V.keys] using hk⟩;simp only[execOp,r,Sem.run_bind,Zg9 T ht hf (Nat.ne_of_beq_eq_false hsz),Result.andThen_ok,Sem.run_pure]
theorem Zqy {x:Operand} {st f:Nat} {y:Ty} {t:Bool} {sz i off fo fs o':Nat} {es:List D} (hdn:Nat.blt d n=true:=by exact rfl) (hg:gOk ops fr g:=by exact Vf) (hx:oev fr x=.eptr t sz es i off:=by exact rfl) (ht:T.rows[st]? = some y:=by exact rfl) (hf:y.fields[f]? = some (fo,fs):=by exact rfl) (hsz:Nat.beq fs 0=false:=by exact rfl) (ho:off+fo=o':=by exact Vu)
  (hr:dops P n dr ops rest (⟨(gIns ops g++ZaG x (.eptr t sz es i off)).map Prod.fst,[d],[],[]⟩::log) K ((d,.eptr t sz es i o')::fr) h):dops P n dr ops (⟨some d,.fieldAddr st x f,ty,pos,after,g⟩::rest) log K fr h:=by
 subst ho;have hone:ZaP x=true:=Zap hx rfl;refine d_un x _ (.eptr t sz es i (off+fo)) [] (by simp) hone (fun G E fr h a w C _ r hk=>?_) hdn hg hx hr;simp only[V.Rep] at r;obtain⟨b,o,us,h1,h2⟩:=r;refine⟨.pointer (some ⟨b,o+(i * sz+off)+fo,none⟩),?_,?_,by simp[V.keys]⟩
 ·simp only[execOp,h1,Sem.run_bind,Zg9 T ht hf (Nat.ne_of_beq_eq_false hsz),Result.andThen_ok,Sem.run_pure]
 ·simp only[V.Rep];exact⟨b,o,us,by simp only[GR],h2⟩
theorem Zqz {x:Operand} {st f:Nat} {y:Ty} {k m i off fo fs sz o':Nat} {e:TypeId} {xs:List D} (hdn:Nat.blt d n=true:=by exact rfl) (hg:gOk ops fr g:=by exact Vf) (hx:oev fr x=.optr k m i off:=by exact rfl) (hk:Ah h k=some (.row e sz xs):=by exact rfl) (hm:xs.length=m:=by exact Vg)
  (ht:T.rows[st]? = some y:=by exact rfl) (hf:y.fields[f]? = some (fo,fs):=by exact rfl) (hsz:Nat.beq fs 0=false:=by exact rfl) (ho:off+fo=o':=by exact Vu)
  (hr:dops P n dr ops rest (⟨(gIns ops g++ZaG x (.optr k m i off)).map Prod.fst,[d],[k],[]⟩::log) K ((d,.optr k m i o')::fr) h):dops P n dr ops (⟨some d,.fieldAddr st x f,ty,pos,after,g⟩::rest) log K fr h:=by
 subst ho;have hone:ZaP x=true:=Zap hx rfl;refine d_un x _ (.optr k m i (off+fo)) [(k,some (.row e sz xs))] (by simpa using hk) hone (fun G E fr h a w C ho2 r hkk=>?_) hdn hg hx hr;have hk':=ho2 (k,some (.row e sz xs)) (by simp);simp only[V.Rep] at r;obtain⟨m',h1,h2,h0,h3⟩:=r;have e1:=Za9 h1 (.inl ⟨e,sz,xs,hk',hm⟩);obtain⟨b,o,cap,h5,h4⟩:=h3 e1.symm sz (.inl ⟨e,xs,hk',hm⟩);refine⟨.pointer (some ⟨b,o+(i * sz+off)+fo,none⟩),?_,?_,by simpa[V.keys] using hkk⟩
 ·simp only[execOp,h4,Sem.run_bind,Zg9 T ht hf (Nat.ne_of_beq_eq_false hsz),Result.andThen_ok,Sem.run_pure]
 ·simp only[V.Rep];refine⟨m',h1,h2,rfl,fun e' sz' hv=>?_⟩;rcases hv with ⟨e2,xs2,hk2,_⟩|⟨_,_,_,_,hk2,_⟩ <;> rw[hk'] at hk2 <;> cases hk2
  exact⟨b,o,cap,h5,by simp only[GR]⟩
theorem Ze7 {t e:TypeId} {y ye:Ty} (ht:T.rows[t]? = some y) (he:y.elem=some e) (hte:T.rows[e]? = some ye) (b o len cap i:Nat) (k:IntKind) (hi:i < len) (w:World) :
  (Instr.indexAt t (.slice (some ⟨b,o,none⟩) len cap) (.int k (i:Int))).run P w=.ok (.pointer (some ⟨b,o+i * ye.size,none⟩)) w:=by
 obtain⟨_,ds,_,h2,_,_,_,_,h7,_⟩:=ZaH (T.at ht);obtain⟨j,_,g1,_,g3,_⟩:=ZaH (T.at hte);have hds:=h7 e he;subst hds;simp[Instr.indexAt,asIntOf,run_underlying h2,sizeOf,typeInfo,g1,g3,hi,Addr.add_mid]
theorem Zsa {x ix:Operand} {st e:Nat} {y ye:Ty} {t:Bool} {sz:Nat} {es:List D} {ik:IntKind} {c:Int} (i:Nat) (hdn:Nat.blt d n=true) (hg:gOk ops fr g) (hx:oev fr x=.d (.sl t sz es)) (hy:oev fr ix=.d (.raw (.int ik c))) (hc:c=(i:Int)) (hlt:i < es.length)
  (ht:T.rows[st]? = some y) (he:y.elem=some e) (hte:T.rows[e]? = some ye) (hsz:Nat.beq ye.size sz=true)
  (hr:dops P n dr ops rest (⟨(gIns ops g++(ZaG x (.d (.sl t sz es))++ZaG ix (.d (.raw (.int ik c))))).map Prod.fst,[d],[],[]⟩::log) K ((d,.eptr t sz es i 0)::fr) h):dops P n dr ops (⟨some d,.indexAddr st x ix,ty,pos,after,g⟩::rest) log K fr h:=by
 have hone:ZaP x=true:=Zap hx rfl;refine ZEz x ix _ ik c (.eptr t sz es i 0) [] (by simp) hone (fun G E fr h a w C _ r hk hyv=>?_) hdn hg hx hy hr;simp only[V.Rep,D.RepV,D.Rep] at r;obtain⟨ad,cap,us,h1,h2,h3,h4,h5,h6⟩:=r;simp only[Hz,HA] at h1;obtain⟨b,o,rfl,h7,h8,h9⟩:=h6 (by rintro rfl;simp at hlt);have hs:=HQ hsz;refine⟨.pointer (some ⟨b,o+i * sz,none⟩),?_,?_,by simp[V.keys]⟩
 ·simp only[execOp,h1,hyv,hc,Sem.run_bind,Ze7 T ht he hte b o es.length cap i ik hlt,Result.andThen_ok,Sem.run_pure,hs]
 ·simp only[V.Rep];exact⟨b,o,us,by simp,hlt,h4,h5,h7,h8,h9⟩
theorem ZqA {x ix:Operand} {st e:Nat} {y ye:Ty} {k m sz:Nat} {e':TypeId} {xs:List D} {ik:IntKind} {c:Int} (i:Nat) (hdn:Nat.blt d n=true) (hg:gOk ops fr g) (hx:oev fr x=.own k m) (hk:Ah h k=some (.row e' sz xs)) (hm:xs.length=m) (hy:oev fr ix=.d (.raw (.int ik c))) (hc:c=(i:Int)) (hlt:i < m)
  (ht:T.rows[st]? = some y) (he:y.elem=some e) (hte:T.rows[e]? = some ye) (hsz:Nat.beq ye.size sz=true)
  (hr:dops P n dr ops rest (⟨(gIns ops g++(ZaG x (.own k m)++ZaG ix (.d (.raw (.int ik c))))).map Prod.fst,[d],[k],[]⟩::log) K ((d,.optr k m i 0)::fr) h):dops P n dr ops (⟨some d,.indexAddr st x ix,ty,pos,after,g⟩::rest) log K fr h:=by
 have hone:ZaP x=true:=Zap hx rfl;refine ZEz x ix _ ik c (.optr k m i 0) [(k,some (.row e' sz xs))] (by simpa using hk) hone (fun G E fr h a w C ho r hkk hyv=>?_) hdn hg hx hy hr;have hk':=ho (k,some (.row e' sz xs)) (by simp);simp only[V.Rep] at r;obtain⟨m',h1,h2,h0,h3⟩:=r;have e1:=Za9 h1 (.inl ⟨e',sz,xs,hk',hm⟩);have hrow:=C.heap.obs k _ hk';simp only[ObRep] at hrow;obtain⟨b,o,cap,us,q1,_⟩:=hrow.cells (by rintro rfl;simp at hm;omega);have hs:=HQ hsz;have hev:a.eval x=.slice (some ⟨b,o,none⟩) xs.length cap:=(h3 e1.symm).trans q1;refine⟨.pointer (some ⟨b,o+i * sz,none⟩),?_,?_,by simpa[V.keys] using hkk⟩
 ·simp only[execOp,hev,hyv,hc,Sem.run_bind,Ze7 T ht he hte b o xs.length cap i ik (by omega),Result.andThen_ok,Sem.run_pure,hs]
 ·simp only[V.Rep];refine⟨m',h1,h2,rfl,fun _ sz' hv=>?_⟩;rcases hv with ⟨e2,xs2,hk2,_⟩|⟨_,_,_,_,hk2,_⟩ <;> rw[hk'] at hk2 <;> cases hk2
  exact⟨b,o,cap,by rw[q1,hm],by simp⟩
end
section
variable {h:Hp}
variable {d:Nat} {ty:TypeId} {pos:String} {after:Array Edge} {g:Option (Nat×Bool)}
theorem LStep.updV {PS:List PanicEntry→Fr→Hp→Prop} {o:Oper} (hd:o.dst=some d) (hdn:Nat.blt d n=true) (hg:o.guard=g) (hgk:gOk ops fr g) (ins:List (Nat×V)) (objs:List (Nat×Option Ob)) (v:V) (upd:List (Nat×Ob))
  (H:∀ (G:Ctx) (E:Env) (fr:Fr) (h:Hp) (a:Act) (w:World),An G E fr h a w→(∀ p∈ins,fget fr p.1=p.2)→(∀ p∈objs,Ah h p.1=p.2) →
   ∃ u E' w',(execOp a.eval o).run P w=.ok (.value u) w'∧An G E' fr (upd++h) a w'∧V.Rep E' (upd++h) (bars E' (upd++h) G.o) w' v u∧∀ k∈v.keys,(Ah (upd++h) k).isSome=true):LStep P n ops PS o (gIns ops g++ins) objs v upd:=by
 intro G E fr' h a w K Q hPan hn C hi ho hK;have hgo:gOk ops fr' o.guard:=by rw[hg];exact Zh5 hgk (fun p hp=>hi p (List.mem_append.2 (.inl hp)))
 obtain⟨u,E',w',h1,C',h2,h3⟩:=H G E fr' h a w C (fun p hp=>hi p (List.mem_append.2 (.inr hp))) ho;unfold wpS;rw[Hb (Zcs C hgo)];refine .inl ?_;unfold Oper.wp;rw[h1];simp only[Oper.upon];refine hK E' _ w' ?_;rw[hd];exact C'.put (by rw[hn];simpa[HU] using hdn) h2 h3
theorem LStep.updS {PS:List PanicEntry→Fr→Hp→Prop} {o:Oper} (hd:o.dst=none) (hg:o.guard=g) (hgk:gOk ops fr g) (ins:List (Nat×V)) (objs:List (Nat×Option Ob)) (upd:List (Nat×Ob))
  (H:∀ (G:Ctx) (E:Env) (fr:Fr) (h:Hp) (a:Act) (w:World),An G E fr h a w→(∀ p∈ins,fget fr p.1=p.2)→(∀ p∈objs,Ah h p.1=p.2) →
   ∃ E' w',(execOp a.eval o).run P w=.ok .skip w'∧An G E' fr (upd++h) a w'):LStep P n ops PS o (gIns ops g++ins) objs .junk upd:=by
 intro G E fr' h a w K Q hPan hn C hi ho hK;have hgo:gOk ops fr' o.guard:=by rw[hg];exact Zh5 hgk (fun p hp=>hi p (List.mem_append.2 (.inl hp)))
 obtain⟨E',w',h1,C'⟩:=H G E fr' h a w C (fun p hp=>hi p (List.mem_append.2 (.inr hp))) ho;unfold wpS;rw[Hb (Zcs C hgo)];refine .inl ?_;unfold Oper.wp;rw[h1];simp only[Oper.upon];refine hK E' _ w' ?_;rw[hd];exact C'.putNone _
theorem Zc7 {g:Option (Nat×Bool)} (hg:gOk ops fr g) {l:List (Nat×V)} (hl:∀ p∈l,fget fr p.1=p.2):∀ p∈gIns ops g++l,fget fr p.1=p.2:=fun p hp=>by
 rcases List.mem_append.1 hp with hp|hp
 ·exact ZdL hg p hp
 ·exact hl p hp
theorem ZeQ {t:TypeId} {ds:TypeDesc} {u:Value} (hu:P.underlying t=some ds) (hd:ds.isRow=false) {w:World} {b o:Nat} (hc:w.cell? ⟨b,o,none⟩=some u):(Instr.loadAt t (.pointer (some ⟨b,o,none⟩))).run P w=.ok u w:=by
 simp only[Instr.loadAt,Instr.sureAddr,Sem.run_bind,Sem.run_pure,Result.andThen_ok,Zgb w t _ ds u hu hd hc]
variable (T:TT P)
theorem ZEA {x:Operand} {t:TypeId} {y:Ty} {k off:Nat} {bt:TypeId} {cs:List V} {c:V} (hdn:Nat.blt d n=true:=by exact rfl) (hg:gOk ops fr g:=by exact Vf) (hx:oev fr x=.ptr k off:=by exact rfl) (hk:Ah h k=some (.box bt cs):=by exact rfl) (ht:T.rows[t]? = some y:=by exact rfl) (hrow:y.row=false:=by exact rfl) (hc:cs[off]? = some c:=by exact rfl)
  (hr:dops P n dr ops rest (⟨(gIns ops g++ZaG x (.ptr k off)).map Prod.fst,[d],[k],[]⟩::log) K ((d,c)::fr) h):dops P n dr ops (⟨some d,.load t x,ty,pos,after,g⟩::rest) log K fr h:=by
 refine d_un x (.ptr k off) c [(k,some (.box bt cs))] (by simpa using hk) (Zap hx rfl) (fun G E fr h a w C ho r hkk=>?_) hdn hg hx hr;have hk':=ho (k,some (.box bt cs)) (by simp);simp only[V.Rep] at r;obtain⟨us,g1,g2,_⟩:=C.heap.obs k _ hk';obtain⟨u,q1,q2⟩:=g2.get hc;obtain⟨_,ds,_,h2,_,_,h5,_⟩:=ZaH (T.at ht);refine⟨u,?_,q2,fun j hj=>C.heap.closed k _ hk' j ?_⟩
 ·have:=ZeQ (P:=P) h2 (by rw[h5];exact hrow) (w:=w) (b:=E.blk k) (o:=off) (u:=u) (by rw[cell_of_row w _ off _ bt _ g1];simpa using q1);simp only[execOp,r,Sem.run_bind,this,Result.andThen_ok,Sem.run_pure]
 ·simp only[Ob.keys];exact V.keyss_mem.2 ⟨c,Jo hc,hj⟩
def cut (cs:List V) (off m:Nat):List V:=(cs.drop off).take m
theorem ZDl {x:Operand} {t:TypeId} {y:Ty} {k off m:Nat} {bt:TypeId} {cs:List V} (hdn:Nat.blt d n=true:=by exact rfl) (hg:gOk ops fr g:=by exact Vf) (hx:oev fr x=.ptr k off:=by exact rfl) (hk:Ah h k=some (.box bt cs):=by exact rfl) (ht:T.rows[t]? = some y:=by exact rfl) (hrow:y.row=true:=by exact rfl) (hm:y.size=m:=by exact rfl) (hl:Nat.ble (off+m) cs.length=true:=by exact rfl) {cs':List V} (hcs:cut cs off m=cs':=by exact Vj)
  (hr:dops P n dr ops rest (⟨(gIns ops g++ZaG x (.ptr k off)).map Prod.fst,[d],[k],[]⟩::log) K ((d,.agg cs')::fr) h):dops P n dr ops (⟨some d,.load t x,ty,pos,after,g⟩::rest) log K fr h:=by
 subst hcs;refine d_un x (.ptr k off) (.agg (cut cs off m)) [(k,some (.box bt cs))] (by simpa using hk) (Zap hx rfl) (fun G E fr h a w C ho r hkk=>?_) hdn hg hx hr;have hk':=ho (k,some (.box bt cs)) (by simp);simp only[V.Rep] at r;obtain⟨us,g1,g2,g3⟩:=C.heap.obs k _ hk';have hlen:=g2.length;have hle:=Jf hl;obtain⟨i,ds,h1,h2,h3,_,h5,_⟩:=ZaH (T.at ht);have hc:=(g2.drop off).take m;refine⟨.agg ((us.drop off).take m).toArray,?_,?_,fun j hj=>C.heap.closed k _ hk' j ?_⟩
 ·have hra:w.rangeAt (E.blk k) off ((us.drop off).take m):=fun j v hv=>by
   rw[cell_of_row w _ (off+j) _ bt _ g1];rw[GC] at hv;split at hv
   ·rw[Gy] at hv;simpa using hv
   ·cases hv
  have:=run_loadAt_mid (P:=P) w (E.blk k) off t ((us.drop off).take m) ds hra h2 (by rw[h5];exact hrow) (by rw[h1];simp[h3,hm];omega);simp only[execOp,r,Sem.run_bind,this,Result.andThen_ok,Sem.run_pure]
 ·simp only[V.Rep];exact⟨_,rfl,hc,fun x hx=>g3 x (G5 (Gf hx))⟩
 ·simp only[Ob.keys];simp only[V.keys] at hj;obtain⟨v,hv,hj⟩:=V.keyss_mem.1 hj;exact V.keyss_mem.2 ⟨v,G5 (Gf hv),hj⟩
inductive Ao (h:Hp):V→D→Nat→List (Nat×Option Ob)→Prop
 | e {t:Bool} {sz i off:Nat} {es:List D} {x:D} (hx:es[i]? = some x):Ao h (.eptr t sz es i off) x off []
 | o {k m sz i off:Nat} {e:TypeId} {xs:List D} {x:D} (hk:Ah h k=some (.row e sz xs)) (hm:xs.length=m) (hx:xs[i]? = some x):Ao h (.optr k m i off) x off [(k,some (.row e sz xs))]
theorem Ao.notAgg {h:Hp} {v:V} {x:D} {off:Nat} {objs:List (Nat×Option Ob)} (hi:Ao h v x off objs):notAgg v=true:=by cases hi <;> rfl
theorem Ao.objs {h:Hp} {v:V} {x:D} {off:Nat} {objs:List (Nat×Option Ob)} (hi:Ao h v x off objs):∀ p∈objs,Ah h p.1=p.2:=by
 cases hi with
 | e _=>simp
 | o hk _ _=>simpa using hk
theorem Ao.of {h h':Hp} {v:V} {x:D} {off:Nat} {objs:List (Nat×Option Ob)} (hi:Ao h v x off objs) (ho:∀ p∈objs,Ah h' p.1=p.2):Ao h' v x off objs:=by
 cases hi with
 | e hx=>exact .e hx
 | o hk hm hx=>exact .o (ho (_,_) (List.mem_singleton.2 rfl)) hm hx
theorem Ao.rep {G:Ctx} {E:Env} {fr:Fr} {h:Hp} {a:Act} {w:World} (C:An G E fr h a w) {v:V} {x:D} {off:Nat} {objs:List (Nat×Option Ob)} (hi:Ao h v x off objs) {u:Value} (hr:V.Rep E h (bars E h G.o) w v u) :
  ∃ b p c,u=.pointer (some ⟨b,p+off,none⟩)∧x.Rep (bars E h G.o) w c∧∀ j,j < c.length→w.cell? ⟨b,p+j,none⟩=c[j]? := by
 cases hi with
 | @e t sz i off es x hx =>
  simp only[V.Rep] at hr;obtain⟨b,o,us,h1,h2,h3,h4,_,_,h7⟩:=hr;have hl:=h4.length;rw[D.sizes_eq h3] at hl;have hg:=h4.get h3 hx;have hgl:=hg.length;have hsx:x.size=sz:=h3 x (Jo hx);refine⟨b,o+i * sz,_,by rw[h1,GR],hg,fun j hj=>?_⟩;rw[hgl,hsx] at hj;have hi1:(i+1) * sz≤es.length * sz:=Gi _ h2;rw[Gb] at hi1;rw[GR,h7 (i * sz+j) (by omega),GC,Hb hj,Gy]
 | @o k m sz i off e xs x hk hm hx =>
  simp only[V.Rep] at hr;obtain⟨m',h1,h2,_,h3⟩:=hr;have e1:=Za9 h1 (.inl ⟨e,sz,xs,hk,hm⟩);obtain⟨b,o,cap,h5,h4⟩:=h3 e1.symm sz (.inl ⟨e,xs,hk,hm⟩);have hrow:=C.heap.obs k _ hk;simp only[ObRep] at hrow;obtain⟨hlt,_⟩:=List.getElem?_eq_some_iff.1 hx;obtain⟨b',o',cap',us,q1,_,q3,q4,_,q6⟩:=hrow.cells (by rintro rfl;simp at hlt);rw[h5] at q1;simp only[Value.slice.injEq,Hx,Addr.mk.injEq,HA] at q1;obtain⟨⟨rfl,rfl⟩,_,_⟩:=q1;have hg:=q3.get hrow.1 hx;have hgl:=hg.length;have hsx:x.size=sz:=hrow.1 x (Jo hx);refine⟨b,o+i * sz,_,by rw[h4,GR],hg,fun j hj=>?_⟩;rw[hgl,hsx] at hj;have hi1:(i+1) * sz≤xs.length * sz:=Gi _ hlt;rw[Gb] at hi1;rw[GR,q6 (i * sz+j) (by omega),GC,Hb hj,Gy]
def D.fs:D→List D
 | .agg fs=>fs
 | x=>[x]
theorem D.Rep.fs {M:Bars} {w:World} {x:D} {c:List Value} (h:x.Rep M w c):D.Reps M w x.fs c:=by
 cases x with
 | agg fs=>simpa[D.fs,D.Rep] using h
 | raw v=>exact D.Reps.single.2 h
 | sl t sz es=>exact D.Reps.single.2 h
theorem D.at_one:∀ {ds:List D} {i:Nat} {c:D},D.at ds i=some c→(match c with|.agg _=>false|_=>true)=true
 | [],_,_,h=>by simp[D.at] at h
 | .agg _::_,i,_,h=>by cases i <;> simp[D.at] at h
 | .raw _::ds,i,c,h=>by
  cases i with
  | zero=>simp only[D.at,Hx] at h;subst h;rfl
  | succ i=>simp only[D.at] at h;exact D.at_one h
 | .sl _ _ _::ds,i,c,h=>by
  cases i with
  | zero=>simp only[D.at,Hx] at h;subst h;rfl
  | succ i=>simp only[D.at] at h;exact D.at_one h
theorem ZDm {x:Operand} {v:V} {el c:D} {off:Nat} {objs:List (Nat×Option Ob)} {t:TypeId} {y:Ty} (hdn:Nat.blt d n=true:=by exact rfl) (hg:gOk ops fr g:=by exact Vf) (hx:oev fr x=v:=by exact Vu) (he:Ao h v el off objs:=by exact Va) (ht:T.rows[t]? = some y:=by exact rfl) (hrow:y.row=false:=by exact rfl) (hc:D.at el.fs off=some c:=by exact rfl)
  (hr:dops P n dr ops rest (⟨(gIns ops g++ZaG x v).map Prod.fst,[d],objs.map Prod.fst,[]⟩::log) K ((d,.d c)::fr) h):dops P n dr ops (⟨some d,.load t x,ty,pos,after,g⟩::rest) log K fr h:=by
 refine d_un x v (.d c) objs he.objs (Zap hx he.notAgg) (fun G E fr h' a w C ho r hkk=>?_) hdn hg hx hr;obtain⟨b,p,us,h1,h2,h3⟩:=(he.of ho).rep C r;obtain⟨u,q1,q2⟩:=h2.fs.at hc;obtain⟨_,ds,_,k2,_,_,k5,_⟩:=ZaH (T.at ht);refine⟨u,?_,?_,by simp[V.keys]⟩
 ·have:=ZeQ (P:=P) k2 (by rw[k5];exact hrow) (w:=w) (b:=b) (o:=p+off) (u:=u) (by rw[h3 off (List.getElem?_eq_some_iff.1 q1).1];exact q1);simp only[execOp,h1,Sem.run_bind,this,Result.andThen_ok,Sem.run_pure]
 ·have:=D.at_one hc;simp only[V.Rep];cases c with
  | agg fs=>simp at this
  | raw v=>exact q2
  | sl t sz es=>exact q2
theorem ZBx {x:Operand} {v:V} {fs:List D} {objs:List (Nat×Option Ob)} {t:TypeId} {y:Ty} (hdn:Nat.blt d n=true:=by exact rfl) (hg:gOk ops fr g:=by exact Vf) (hx:oev fr x=v:=by exact Vu) (he:Ao h v (.agg fs) 0 objs:=by exact Va) (ht:T.rows[t]? = some y:=by exact rfl) (hrow:y.row=true:=by exact rfl) (hm:y.size=D.sizes fs:=by exact rfl)
  (hr:dops P n dr ops rest (⟨(gIns ops g++ZaG x v).map Prod.fst,[d],objs.map Prod.fst,[]⟩::log) K ((d,.d (.agg fs))::fr) h):dops P n dr ops (⟨some d,.load t x,ty,pos,after,g⟩::rest) log K fr h:=by
 refine d_un x v (.d (.agg fs)) objs he.objs (Zap hx he.notAgg) (fun G E fr h' a w C ho r hkk=>?_) hdn hg hx hr;obtain⟨b,p,us,h1,h2,h3⟩:=(he.of ho).rep C r;obtain⟨i,ds,k1,k2,k3,_,k5,_⟩:=ZaH (T.at ht);have hl:=h2.length;refine⟨.agg us.toArray,?_,?_,by simp[V.keys]⟩
 ·have hra:w.rangeAt b p us:=fun j u hu=>by rw[h3 j (List.getElem?_eq_some_iff.1 hu).1];exact hu
  have:=run_loadAt_mid (P:=P) w b p t us ds hra k2 (by rw[k5];exact hrow) (by rw[k1];simp[k3,hm,hl,D.size]);simp only[Gx] at h1;simp only[execOp,h1,Sem.run_bind,this,Result.andThen_ok,Sem.run_pure]
 ·simp only[V.Rep,D.RepV];exact⟨us,rfl,by simpa[D.Rep] using h2⟩
theorem Zt0 {x:Operand} {v:V} {A fs R:List D} {off:Nat} {objs:List (Nat×Option Ob)} {t:TypeId} {y:Ty} (hdn:Nat.blt d n=true) (hg:gOk ops fr g) (hx:oev fr x=v) (he:Ao h v (.agg (A++(fs++R))) off objs) (hA:off=D.sizes A) (ht:T.rows[t]? = some y) (hrow:y.row=true) (hm:y.size=D.sizes fs)
  (hr:dops P n dr ops rest (⟨(gIns ops g++ZaG x v).map Prod.fst,[d],objs.map Prod.fst,[]⟩::log) K ((d,.d (.agg fs))::fr) h):dops P n dr ops (⟨some d,.load t x,ty,pos,after,g⟩::rest) log K fr h:=by
 subst hA;refine d_un x v (.d (.agg fs)) objs he.objs (Zap hx he.notAgg) (fun G E fr h' a w C ho r hkk=>?_) hdn hg hx hr;obtain⟨b,p,us,h1,h2,h3⟩:=(he.of ho).rep C r;obtain⟨i,ds,k1,k2,k3,_,k5,_⟩:=ZaH (T.at ht);simp only[D.Rep] at h2;have hs:=(D.Reps.split (D.Reps.split h2).2).1;have hl:=hs.length;have hlu:=h2.length;refine⟨.agg ((us.drop (D.sizes A)).take (D.sizes fs)).toArray,?_,?_,by simp[V.keys]⟩
 ·have hra:w.rangeAt b (p+D.sizes A) ((us.drop (D.sizes A)).take (D.sizes fs)):=fun j u hu=>by
   rw[GC] at hu;split at hu
   ·rw[Gy] at hu;rw[GR,h3 _ (List.getElem?_eq_some_iff.1 hu).1];exact hu
   ·cases hu
  have:=run_loadAt_mid (P:=P) w b (p+D.sizes A) t _ ds hra k2 (by rw[k5];exact hrow) (by rw[k1];simp only[H9,k3,hm,hl]);simp only[execOp,h1,Sem.run_bind,this,Result.andThen_ok,Sem.run_pure]
 ·simp only[V.Rep,D.RepV];exact⟨_,rfl,hs⟩
def D.isOne:D→Bool
 | .agg _=>false
 | _=>true
def V.cellsOf:V→Option (List V)
 | .agg cs=>some cs
 | .d (.agg fs)=>match fs.all D.isOne with
  | true=>some (fs.map .d)
  | false=>none
 | .tup _|.opn _|.junk=>none
 | v=>some [v]
theorem ZqB {E:Env} {h:Hp} {M:Bars} {w:World}:∀ {fs:List D} {us:List Value},fs.all D.isOne=true→D.Reps M w fs us→V.Reps E h M w (fs.map .d) us
 | [],_,_,r=>by simp only[D.Reps] at r;simp only[HF,V.Reps];exact r
 | f::fs,_,ho,r=>by
  simp only[GG,Hr] at ho;simp only[D.Reps] at r;obtain⟨c,q,rfl,h1,h2⟩:=r;have hl:=h1.length;have:f.size=1:=by cases f <;> simp_all [D.isOne,D.size]
  rw[this] at hl
  match c,hl with
  | [u],_ =>
   simp only[Hm,V.Reps];refine⟨u,q,rfl,?_,ZqB ho.2 h2⟩;simp only[V.Rep];cases f with
   | agg _=>simp[D.isOne] at ho
   | raw v=>exact h1
   | sl t sz es=>exact h1
theorem V.cells_rep {E:Env} {h:Hp} {M:Bars} {w:World} {v:V} {u:Value} {cs:List V} (hc:v.cellsOf=some cs) (hr:V.Rep E h M w v u):V.Reps E h M w cs u.cells.toList∧∀ x∈u.cells.toList,x.oneCell'=true:=by
 have single:u.oneCell'=true→V.Reps E h M w [v] u.cells.toList∧∀ x∈u.cells.toList,x.oneCell'=true:=fun ho=>by
  have:u.cells=#[u]:=by cases u <;> simp_all [Value.cells,Value.oneCell']
  rw[this];exact⟨by simp only[V.Reps];exact⟨u,[],rfl,hr,rfl⟩,by simpa using ho⟩
 cases v with
 | agg xs =>
  simp only[V.cellsOf,Hx] at hc;subst hc;simp only[V.Rep] at hr;obtain⟨us,rfl,h2,h3⟩:=hr;exact⟨by simpa[Value.cells] using h2,by simpa[Value.cells] using h3⟩
 | d x =>
  cases x with
  | agg fs =>
   simp only[V.cellsOf] at hc;cases hall:fs.all D.isOne with
   | false=>rw[hall] at hc;cases hc
   | true =>
    rw[hall] at hc;simp only[Hx] at hc;subst hc;simp only[V.Rep,D.RepV] at hr;obtain⟨us,rfl,h2⟩:=hr;exact⟨by simpa[Value.cells] using ZqB hall h2,by simpa[Value.cells] using h2.one⟩
  | raw z =>
   simp only[V.cellsOf,Hx] at hc;subst hc;refine single ?_;simp only[V.Rep,D.RepV,D.Rep,Hz,HA] at hr;rw[hr.1];exact hr.2
  | sl t sz es =>
   simp only[V.cellsOf,Hx] at hc;subst hc;refine single ?_;simp only[V.Rep,D.RepV,D.Rep] at hr;obtain⟨a,cap,us,h1,_⟩:=hr;simp only[Hz,HA] at h1;rw[h1];rfl
 | full t sz es =>
  simp only[V.cellsOf,Hx] at hc;subst hc;refine single ?_;simp only[V.Rep] at hr;obtain⟨_,a,h1⟩:=hr;rw[h1];rfl
 | own k n =>
  simp only[V.cellsOf,Hx] at hc;subst hc;refine single ?_;simp only[V.Rep] at hr;obtain⟨m,_,_,h1,_⟩:=hr;exact h1
 | ptr k off =>
  simp only[V.cellsOf,Hx] at hc;subst hc;refine single ?_;simp only[V.Rep] at hr;rw[hr];rfl
 | eptr t sz es i off =>
  simp only[V.cellsOf,Hx] at hc;subst hc;refine single ?_;simp only[V.Rep] at hr;obtain⟨b,o,us,h1,_⟩:=hr;rw[h1];rfl
 | optr k n i off =>
  simp only[V.cellsOf,Hx] at hc;subst hc;refine single ?_;simp only[V.Rep] at hr;obtain⟨m,_,_,h1,_⟩:=hr;exact h1
 | fn f fs cs =>
  simp only[V.cellsOf,Hx] at hc;subst hc;refine single ?_;simp only[V.Rep] at hr;obtain⟨a,c,h1,_⟩:=hr;rw[h1];rfl
 | mapv k =>
  simp only[V.cellsOf,Hx] at hc;subst hc;refine single ?_;simp only[V.Rep] at hr;rw[hr];rfl
 | opn p=>simp[V.cellsOf] at hc
 | tup vs=>simp[V.cellsOf] at hc
 | junk=>simp[V.cellsOf] at hc
end
section
variable {G:Ctx} {E:Env} {fr:Fr} {h:Hp} {a:Act} {w:World}
theorem ZDn {h:Hp} {k m:Nat} (hk:Ah h k=none):¬ verAny h k m:=by
 rintro (⟨_,_,_,h1,_⟩|⟨_,_,h1,_⟩|h1|⟨_,_,_,_,h1,_⟩) <;> rw[hk] at h1 <;> cases h1
theorem An.newBox (C:An G E fr h a w) {k:Nat} (hk:Ah h k=none) (hlow:Nat.blt k 1000=true) (ty:TypeId) {cs:List V} {us:List Value} (hr:V.Reps E h (bars E h G.o) w cs us) (h1:∀ x∈us,x.oneCell'=true) (hcl:∀ j∈V.keyss cs,(Ah h j).isSome=true) :
  ∃ E',An G E' fr ((k,.box ty cs)::h) a (w.alloc (.cells us.toArray ty))∧E'.blk k=w.heap.size:=by
 refine⟨⟨fun j=>if j=k then w.heap.size else E.blk j,E.row,E.fp⟩,?_,by simp⟩;have U:Upd E h w k (.box ty cs) ⟨fun j=>if j=k then w.heap.size else E.blk j,E.row,E.fp⟩ (w.alloc (.cells us.toArray ty)) :=
  ⟨fun j hj=>by simp[hj],fun _ _=>rfl,fun _ _=>rfl,(fun hs=>by rw[hk] at hs;cases hs),fun _=>by simpa[HU] using hlow,fun m hm=>(ZDn hk hm).elim,(fun hs=>by rw[hk] at hs;cases hs),Ext.new _ _,
   (fun b hb=>by unfold Ai at hb;rw[Zai] at hb;simp at hb;exact .inr (by omega))⟩
 refine C.upd U ⟨us,by simpa using heap_alloc_new w _,hr.move (U.trans G.o) hcl (fun j hj=>U.mono j (hcl j hj)),h1⟩ (fun j hj=>U.mono j (hcl j (by simpa[Ob.keys] using hj)))
theorem An.newRow (C:An G E fr h a w) {k:Nat} (hk:Ah h k=none) (hlow:Nat.blt k 1000=true) {e sz:Nat} {xs:List D} {v:Value} {w':World} (hE:Ext NoB w w') (hb:∀ b,obOf v=some b→w.heap.size≤b)
  (hrow:∀ M',Carry (bars E h G.o) M' w w'→RowAt M' w' e sz v xs):∃ E',An G E' fr ((k,.row e sz xs)::h) a w'∧E'.row k=v:=by
 refine⟨⟨E.blk,fun j=>if j=k then v else E.row j,E.fp⟩,?_,by simp⟩;have U:Upd E h w k (.row e sz xs) ⟨E.blk,fun j=>if j=k then v else E.row j,E.fp⟩ w' :=
  ⟨fun _ _=>rfl,fun j hj=>by simp[hj],fun _ _=>rfl,fun _=>rfl,fun _=>by simpa[HU] using hlow,fun m hm=>(ZDn hk hm).elim,(fun hs=>by rw[hk] at hs;cases hs),hE.mono (fun _ hf=>hf.elim),
   (fun b hb'=>by unfold Ai at hb';rw[Zai] at hb';simp at hb';exact .inr (hb b hb'))⟩
 exact C.upd U (by simp only[ObRep,if_true];exact hrow _ (U.carry G.o)) (by simp[Ob.keys])
theorem An.setRow (C:An G E fr h a w) {k:Nat} {e sz:Nat} {xs xs':List D} (hk:Ah h k=some (.row e sz xs)) {v:Value} {w':World} (hE:Ext (fun b=>obOf (E.row k)=some b) w w')
  (hb:∀ b,obOf v=some b→obOf (E.row k)=some b∨w.heap.size≤b) (hlen:xs.length≤xs'.length) (hsame:xs.length=xs'.length→v=E.row k)
  (hrow:∀ M',Carry (bars E h G.o) M' w w'→RowAt M' w' e sz v xs'):∃ E',An G E' fr ((k,.row e sz xs')::h) a w'∧E'.row k=v:=by
 refine⟨⟨E.blk,fun j=>if j=k then v else E.row j,E.fp⟩,?_,by simp⟩;have hbk:∀ b,Ai E h k b↔obOf (E.row k)=some b:=fun b=>by simp[Ai,hk]
 have U:Upd E h w k (.row e sz xs') ⟨E.blk,fun j=>if j=k then v else E.row j,E.fp⟩ w':=by
  refine⟨fun _ _=>rfl,fun j hj=>by simp[hj],fun _ _=>rfl,fun _=>rfl,(fun hn=>by rw[hk] at hn;cases hn),fun m hm=>?_,fun _ sz' n' hv=>?_,hE.mono (fun b hb=>by rw[hbk];exact hb),fun b hb'=>?_⟩
  ·have e1:=Za9 hm (.inl ⟨e,sz,xs,hk,rfl⟩);subst e1;exact⟨xs'.length,.inl ⟨e,sz,xs',Zai _ _ _,rfl⟩,hlen,fun q=>by simp[hsame q]⟩
  ·rcases hv with ⟨_,_,h1,_⟩|⟨_,_,_,_,h1,_⟩ <;> rw[Zai] at h1 <;> cases h1
   exact⟨xs.length,.inl ⟨e,xs,hk,rfl⟩⟩
  ·unfold Ai at hb';rw[Zai] at hb';simp at hb';rw[hbk];exact hb b hb'
 exact C.upd U (by simp only[ObRep,if_true];exact hrow _ (U.carry G.o)) (by simp[Ob.keys])
theorem An.setBox (C:An G E fr h a w) {k:Nat} {ty:TypeId} {cs cs':List V} (hk:Ah h k=some (.box ty cs)) {us':List Value} (hr:V.Reps E h (bars E h G.o) w cs' us') (h1:∀ x∈us',x.oneCell'=true) (hcl:∀ j∈V.keyss cs',(Ah h j).isSome=true) :
  An G E fr ((k,.box ty cs')::h) a (w.setRow (E.blk k) us'.toArray):=by
 have hbk:Ai E h k (E.blk k):=by simp[Ai,hk]
 have U:Upd E h w k (.box ty cs') E (w.setRow (E.blk k) us'.toArray) :=
  ⟨fun _ _=>rfl,fun _ _=>rfl,fun _ _=>rfl,fun _=>rfl,(fun hn=>by rw[hk] at hn;cases hn),(fun m hm=>by exfalso;rcases hm with ⟨_,_,_,h1,_⟩|⟨_,_,h1,_⟩|h1|⟨_,_,_,_,h1,_⟩ <;> rw[hk] at h1 <;> cases h1),
   (fun _ sz n hv=>by exfalso;rcases hv with ⟨_,_,h1,_⟩|⟨_,_,_,_,h1,_⟩ <;> (rw[Zai] at h1;cases h1)),Ext.setRow w _ _ hbk,(fun b hb=>.inl (by unfold Ai at hb ⊢;rw[Zai] at hb;rw[hk];exact hb))⟩
 obtain⟨us,g1,_,_⟩:=C.heap.obs k _ hk;exact C.upd U ⟨us',setRow_heap w _ _ _ _ _ g1,hr.move (U.trans G.o) hcl (fun j hj=>U.mono j (hcl j hj)),h1⟩ (fun j hj=>U.mono j (hcl j (by simpa[Ob.keys] using hj)))
inductive Emb (h:Hp):V→D→List (Nat×Option Ob)→Hp→Prop
 | d (x:D):Emb h (.d x) x [] []
 | full (t:Bool) (sz:Nat) (es:List D):Emb h (.full t sz es) (.sl t sz es) [] []
 | nil (t:Bool) (sz:Nat):Emb h (.d (.raw (.slice none 0 0))) (.sl t sz []) [] []
 | own {k n sz:Nat} {e:TypeId} {xs:List D} (hk:Ah h k=some (.row e sz xs)) (hn:xs.length=n):Emb h (.own k n) (.sl false sz xs) [(k,some (.row e sz xs))] [(k,.froz sz xs)]
 | frz {k n sz:Nat} {xs:List D} (hk:Ah h k=some (.froz sz xs)) (hn:xs.length=n):Emb h (.own k n) (.sl false sz xs) [(k,some (.froz sz xs))] []
inductive Embs (h:Hp):List V→List D→List (Nat×Option Ob)→Hp→Prop
 | nil:Embs h [] [] [] []
 | cons {v:V} {x:D} {vs:List V} {xs:List D} {o1 o2:List (Nat×Option Ob)} {f1 f2:Hp} (h1:Emb h v x o1 f1) (h2:Embs h vs xs o2 f2):Embs h (v::vs) (x::xs) (o1++o2) (f1++f2)
inductive Aq (h:Hp):V→D→List (Nat×Option Ob)→Hp→Prop
 | one {v:V} {x:D} {o:List (Nat×Option Ob)} {f:Hp} (h1:Emb h v x o f):Aq h v x o f
 | agg {cs:List V} {xs:List D} {o:List (Nat×Option Ob)} {f:Hp} (h1:Embs h cs xs o f):Aq h (.agg cs) (.agg xs) o f
inductive EmbVs (h:Hp):List V→List D→List (Nat×Option Ob)→Hp→Prop
 | nil:EmbVs h [] [] [] []
 | cons {v:V} {x:D} {vs:List V} {xs:List D} {o1 o2:List (Nat×Option Ob)} {f1 f2:Hp} (h1:Aq h v x o1 f1) (h2:EmbVs h vs xs o2 f2):EmbVs h (v::vs) (x::xs) (o1++o2) (f1++f2)
def Am (h:Hp) (objs:List (Nat×Option Ob)):Prop:=∀ p∈objs,Ah h p.1=p.2
theorem Am.append {h:Hp} {a b:List (Nat×Option Ob)}:Am h (a++b)↔Am h a∧Am h b:=by
 simp only[Am,HV];exact⟨fun q=>⟨fun p hp=>q p (.inl hp),fun p hp=>q p (.inr hp)⟩,fun q p hp=>hp.elim (q.1 p) (q.2 p)⟩
def FzOk (h fz:Hp):Prop:=∀ p∈fz,∃ e sz xs,p.2=.froz sz xs∧Ah h p.1=some (.row e sz xs)
theorem Emb.objs {v:V} {x:D} {o:List (Nat×Option Ob)} {f:Hp} (he:Emb h v x o f):Am h o:=by cases he <;> simp[Am] <;> assumption
theorem Embs.objs {vs:List V} {xs:List D} {o:List (Nat×Option Ob)} {f:Hp} (he:Embs h vs xs o f):Am h o:=by
 induction he with
 | nil=>simp[Am]
 | cons h1 _ ih=>exact Am.append.2 ⟨h1.objs,ih⟩
theorem Aq.objs {v:V} {x:D} {o:List (Nat×Option Ob)} {f:Hp} (he:Aq h v x o f):Am h o:=by
 cases he with
 | one h1=>exact h1.objs
 | agg h1=>exact h1.objs
theorem EmbVs.objs {vs:List V} {xs:List D} {o:List (Nat×Option Ob)} {f:Hp} (he:EmbVs h vs xs o f):Am h o:=by
 induction he with
 | nil=>simp[Am]
 | cons h1 _ ih=>exact Am.append.2 ⟨h1.objs,ih⟩
theorem Emb.fz {v:V} {x:D} {o:List (Nat×Option Ob)} {f:Hp} (he:Emb h v x o f):FzOk h f:=by
 cases he with
 | own hk hn=>intro p hp;simp at hp;subst hp;exact⟨_,_,_,rfl,hk⟩
 | _=>simp[FzOk]
theorem FzOk.append {a b:Hp} (h1:FzOk h a) (h2:FzOk h b):FzOk h (a++b):=fun p hp=>(List.mem_append.1 hp).elim (h1 p) (h2 p)
theorem Embs.fz {vs:List V} {xs:List D} {o:List (Nat×Option Ob)} {f:Hp} (he:Embs h vs xs o f):FzOk h f:=by
 induction he with
 | nil=>simp[FzOk]
 | cons h1 _ ih=>exact h1.fz.append ih
theorem Aq.fz {v:V} {x:D} {o:List (Nat×Option Ob)} {f:Hp} (he:Aq h v x o f):FzOk h f:=by
 cases he with
 | one h1=>exact h1.fz
 | agg h1=>exact h1.fz
theorem EmbVs.fz {vs:List V} {xs:List D} {o:List (Nat×Option Ob)} {f:Hp} (he:EmbVs h vs xs o f):FzOk h f:=by
 induction he with
 | nil=>simp[FzOk]
 | cons h1 _ ih=>exact h1.fz.append ih
theorem Emb.of {h':Hp} {v:V} {x:D} {o:List (Nat×Option Ob)} {f:Hp} (he:Emb h v x o f) (ho:Am h' o):Emb h' v x o f:=by
 cases he with
 | d x=>exact .d x
 | full t sz es=>exact .full t sz es
 | nil t sz=>exact .nil t sz
 | own hk hn=>exact .own (ho (_,_) (List.mem_singleton.2 rfl)) hn
 | frz hk hn=>exact .frz (ho (_,_) (List.mem_singleton.2 rfl)) hn
theorem Embs.of {h':Hp} {vs:List V} {xs:List D} {o:List (Nat×Option Ob)} {f:Hp} (he:Embs h vs xs o f) (ho:Am h' o):Embs h' vs xs o f:=by
 induction he with
 | nil=>exact .nil
 | cons h1 _ ih=>exact .cons (h1.of (Am.append.1 ho).1) (ih (Am.append.1 ho).2)
theorem Aq.of {h':Hp} {v:V} {x:D} {o:List (Nat×Option Ob)} {f:Hp} (he:Aq h v x o f) (ho:Am h' o):Aq h' v x o f:=by
 cases he with
 | one h1=>exact .one (h1.of ho)
 | agg h1=>exact .agg (h1.of ho)
theorem EmbVs.of {h':Hp} {vs:List V} {xs:List D} {o:List (Nat×Option Ob)} {f:Hp} (he:EmbVs h vs xs o f) (ho:Am h' o):EmbVs h' vs xs o f:=by
 induction he with
 | nil=>exact .nil
 | cons h1 _ ih=>exact .cons (h1.of (Am.append.1 ho).1) (ih (Am.append.1 ho).2)
theorem An.frozs:∀ {fz:Hp},FzOk h fz→An G E fr h a w→An G E fr (fz++h) a w
 | [],_,C=>C
 | (k,o)::fz,hf,C=>by
  have C':=An.frozs (fz:=fz) (fun p hp=>hf p (by simp[hp])) C;obtain⟨e,sz,xs,h1,h2⟩:=hf (k,o) (by simp);simp only at h1 h2;subst h1;by_cases hm:k∈fz.map Prod.fst
  ·obtain⟨o',ho'⟩:=Zh3 hm;have hsame:o'=.froz sz xs:=by
    have:∀ {u:Hp} {o':Ob},Ah u k=some o'→(k,o')∈u:=by
     intro u
     induction u with
     | nil=>intro o' q;simp[Ah] at q
     | cons p u ih =>
      intro o' q;obtain⟨j,ob⟩:=p;by_cases ej:j=k
      ·subst ej;rw[Zai] at q;cases q;simp
      ·rw[Zar _ _ ej] at q;exact HK _ (ih q)
    obtain⟨e',sz',xs',q1,q2⟩:=hf (k,o') (by simp[this ho']);simp only at q1 q2;rw[h2] at q2;cases q2;exact q1
   subst hsame;refine C'.congr (fun _=>rfl) (fun j=>?_);by_cases ej:j=k
   ·subst ej;rw[Hv,Zai,ZaL,ho']
   ·rw[Hv,Zar _ _ (Ne.symm ej)]
  ·have hk':Ah (fz++h) k=some (.row e sz xs):=by rw[ZaL,ZcD hm];exact h2
   exact C'.froz hk'
theorem ZDo {fz:Hp} (hf:FzOk h fz) {k sz:Nat} {xs:List D} (hk:(k,Ob.froz sz xs)∈fz):Ah (fz++h) k=some (.froz sz xs):=by
 obtain⟨o,ho⟩:=Zh3 (u:=fz) (k:=k) (List.mem_map.2 ⟨_,hk,rfl⟩);rw[ZaL,ho];simp only[Hx];have hm:(k,o)∈fz:=by
  clear hf hk
  induction fz with
  | nil=>simp[Ah] at ho
  | cons p u ih =>
   obtain⟨j,ob⟩:=p;by_cases ej:j=k
   ·subst ej;rw[Zai] at ho;cases ho;simp
   ·rw[Zar _ _ ej] at ho;exact HK _ (ih ho)
 obtain⟨e1,s1,x1,q1,q2⟩:=hf _ hk;obtain⟨e2,s2,x2,q3,q4⟩:=hf _ hm;simp only at q1 q2 q3 q4;rw[q2] at q4;cases q4;cases q1;exact q3
theorem Emb.co {v:V} {x:D} {o:List (Nat×Option Ob)} {f fz:Hp} (he:Emb h v x o f) (hf:FzOk h fz) (hsub:∀ p∈f,p∈fz):Co (fz++h) v (.d x):=by
 cases he with
 | d x=>exact Co.refl _
 | full t sz es=>exact Co.full t sz es
 | nil t sz=>exact Co.nil t sz
 | own hk hn=>exact Co.froz (ZDo hf (hsub _ (List.mem_singleton.2 rfl))) hn.symm
 | @frz k n sz xs hk hn =>
  refine Co.froz (sz:=sz) (xs:=xs) ?_ hn.symm;rw[ZaL];cases hq:Ah fz k with
  | none=>exact hk
  | some ob =>
   exfalso;have:∀ {u:Hp} {o':Ob},Ah u k=some o'→(k,o')∈u:=by
    intro u
    induction u with
    | nil=>intro o' q;simp[Ah] at q
    | cons p u ih =>
     intro o' q;obtain⟨j,ob⟩:=p;by_cases ej:j=k
     ·subst ej;rw[Zai] at q;cases q;simp
     ·rw[Zar _ _ ej] at q;exact HK _ (ih q)
   obtain⟨_,_,_,_,q2⟩:=hf _ (this hq);rw[hk] at q2;cases q2
theorem Embs.co {vs:List V} {xs:List D} {o:List (Nat×Option Ob)} {f fz:Hp} (he:Embs h vs xs o f) (hf:FzOk h fz) (hsub:∀ p∈f,p∈fz):Cos (fz++h) vs (xs.map .d):=by
 induction he with
 | nil=>trivial
 | cons h1 _ ih=>exact⟨h1.co hf (fun p hp=>hsub p (List.mem_append.2 (.inl hp))),ih (fun p hp=>hsub p (List.mem_append.2 (.inr hp)))⟩
theorem Aq.co {v:V} {x:D} {o:List (Nat×Option Ob)} {f fz:Hp} (he:Aq h v x o f) (hf:FzOk h fz) (hsub:∀ p∈f,p∈fz):Co (fz++h) v (.d x):=by
 cases he with
 | one h1=>exact h1.co hf hsub
 | agg h1=>exact Co.agg (h1.co hf hsub)
theorem EmbVs.co {vs:List V} {xs:List D} {o:List (Nat×Option Ob)} {f fz:Hp} (he:EmbVs h vs xs o f) (hf:FzOk h fz) (hsub:∀ p∈f,p∈fz):Cos (fz++h) vs (xs.map .d):=by
 induction he with
 | nil=>trivial
 | cons h1 _ ih=>exact⟨h1.co hf (fun p hp=>hsub p (List.mem_append.2 (.inl hp))),ih (fun p hp=>hsub p (List.mem_append.2 (.inr hp)))⟩
theorem ZyZ {M:Bars}:∀ {xs:List D} {us:List Value},V.Reps E h M w (xs.map .d) us→D.Reps M w xs (us.flatMap fun u=>u.cells.toList)
 | [],us,r=>by simp only[HF,V.Reps] at r;subst r;simp[D.Reps]
 | x::xs,us,r=>by
  simp only[Hm,V.Reps] at r;obtain⟨u,q,rfl,h1,h2⟩:=r;simp only[D.Reps,HP];exact⟨_,_,rfl,by simpa[V.Rep] using D.RepV.cells (by simpa[V.Rep] using h1),ZyZ h2⟩
theorem Zm2 {M:Bars} {sz:Nat}:∀ {xs:List D} {us:List Value},V.Reps E h M w (xs.map .d) us→(∀ x∈xs,x.size=sz)→∀ u∈us,u.cells.size=sz
 | [],us,r,_=>by simp only[HF,V.Reps] at r;subst r;simp
 | x::xs,us,r,hs=>by
  simp only[Hm,V.Reps] at r;obtain⟨u,q,rfl,h1,h2⟩:=r;intro z hz;rcases List.mem_cons.1 hz with rfl|hz
  ·have:=(D.RepV.cells (by simpa[V.Rep] using h1)).length;rw[hs x (by simp)] at this;simpa using this
  ·exact Zm2 h2 (fun y hy=>hs y (by simp[hy])) z hz
theorem Am.cons {p:Nat×Option Ob} {l:List (Nat×Option Ob)} (h1:Ah h p.1=p.2) (h2:Am h l):Am h (p::l):=fun q hq=>(List.mem_cons.1 hq).elim (fun e=>by rw[e];exact h1) (h2 q)
end
section
variable {h:Hp}
variable {d:Nat} {ty:TypeId} {pos:String} {after:Array Edge} {g:Option (Nat×Bool)}
theorem ZdB {G:Ctx} {E:Env} {a:Act} {w:World} (C:An G E fr h a w):∀ {xs:List Operand} {vs:List V},oevs fr xs vs→xs.all ZaP=true→V.Reps E h (bars E h G.o) w vs (xs.map a.eval)∧∀ k∈V.keyss vs,(Ah h k).isSome=true
 | [],[],_,_=>⟨by simp[V.Reps],by simp[V.keyss]⟩
 | x::xs,v::vs,he,h1=>by
  simp only[oevs] at he;simp only[GG,Hr] at h1;obtain⟨r1,r2⟩:=C.oev he.1 (Zao h1.1);obtain⟨q1,q2⟩:=ZdB C he.2 h1.2;refine⟨by simp only[V.Reps,Hm];exact⟨_,_,rfl,r1,q1⟩,?_⟩;simp only[V.keyss,HV];rintro k (hk|hk)
  ·exact r2 k hk
  ·exact q2 k hk
 | [],_::_,he,_=>by simp[oevs] at he
 | _::_,[],he,_=>by simp[oevs] at he
variable (T:TT P)
def ZgF:Value→List V
 | .agg cs=>cs.toList.map fun u=>.d (.raw u)
 | v=>[.d (.raw v)]
def Zej:Value→Bool
 | .agg cs=>cs.toList.all Value.oneCell'
 | v=>v.oneCell'
theorem ZqC {E:Env} {h:Hp} {M:Bars} {w:World} {z:Value} (hz:Zej z=true):V.Reps E h M w (ZgF z) z.cells.toList∧(∀ x∈z.cells.toList,x.oneCell'=true)∧V.keyss (ZgF z)=[]:=by
 have key:∀ (l:List Value),l.all Value.oneCell'=true→V.Reps E h M w (l.map fun u=>V.d (.raw u)) l∧V.keyss (l.map fun u=>V.d (.raw u))=[]:=by
  intro l
  induction l with
  | nil=>intro _;simp[V.Reps,V.keyss]
  | cons u l ih =>
   intro ha;simp only[GG,Hr] at ha;obtain⟨i1,i2⟩:=ih ha.2;refine⟨by simp only[Hm,V.Reps];exact⟨u,l,rfl,by simp[V.Rep,D.RepV,D.Rep,ha.1],i1⟩,by simp[V.keyss,V.keys,i2]⟩
 cases z with
 | agg cs =>
  simp only[Zej] at hz;obtain⟨k1,k2⟩:=key cs.toList hz;exact⟨by simpa[ZgF,Value.cells] using k1,by simpa only [Value.cells] using List.all_eq_true.1 hz,by simpa[ZgF] using k2⟩
 | _ =>
  simp only[Zej] at hz;obtain⟨k1,k2⟩:=key [_] (by simpa using hz);exact⟨by simpa[ZgF,Value.cells] using k1,by simpa[Value.cells] using hz,by simpa[ZgF] using k2⟩
theorem ZDp {t:TypeId} {y:Ty} {z:Value} {cs:List V} (hdn:Nat.blt d n=true:=by exact rfl) (hlow:Nat.blt d 1000=true:=by exact rfl) (hg:gOk ops fr g:=by exact Vf) (hk:Ah h d=none:=by exact rfl) (ht:T.rows[t]? = some y:=by exact rfl) (hz:y.zero=some z:=by exact rfl) (h1:Zej z=true:=by exact rfl) (hcs:ZgF z=cs:=by exact Vj)
  (hr:dops P n dr ops rest (⟨(gIns ops g++[]).map Prod.fst,[d],[d],[d]⟩::log) K ((d,.ptr d 0)::fr) ((d,.box t cs)::h)):dops P n dr ops (⟨some d,.alloc t,ty,pos,after,g⟩::rest) log K fr h:=by
 subst hcs;refine ZaA (ins:=gIns ops g++[]) (objs:=[(d,none)]) (v:=.ptr d 0) (upd:=[(d,.box t (ZgF z))]) (LStep.updV rfl hdn rfl hg [] _ _ _ fun G E fr' h' a w C _ ho=>?_) (Zc7 hg (by simp)) (by simpa using hk) hr;have hk':Ah h' d=none:=ho (d,none) (by simp);obtain⟨i,ds,k1,k2,_,_,_,k6,_⟩:=ZaH (T.at ht);obtain⟨z1,z2,z3⟩:=ZqC (E:=E) (h:=h') (M:=bars E h' G.o) (w:=w) h1;obtain⟨E',C',hb⟩:=C.newBox hk' hlow t z1 z2 (by rw[z3];simp);refine⟨.pointer (some ⟨w.heap.size,0,none⟩),E',_,?_,C',by simp only[V.Rep];rw[hb],by intro q hq;simp[V.keys] at hq;subst hq;simp[Zai]⟩;have hzz:(zeroValue t).run P w=.ok z w:=by
  unfold zeroValue typeInfo;simp[k1,k6,hz]
 simp[execOp,Instr.alloc,hzz,newVar,newRow]
theorem ZFi {x:Operand} {t:TypeId} {v:V} {cs:List V} (hdn:Nat.blt d n=true:=by exact rfl) (hlow:Nat.blt d 1000=true:=by exact rfl) (hg:gOk ops fr g:=by exact Vf) (hx:oev fr x=v:=by exact Vu) (h1:ZaP x=true:=by exact rfl) (hk:Ah h d=none:=by exact rfl) (hcs:v.cellsOf=some cs:=by exact rfl) {cs':List V} (hn:cs=cs':=by exact Vj)
  (hr:dops P n dr ops rest (⟨(gIns ops g++ZaG x v).map Prod.fst,[d],[d],[d]⟩::log) K ((d,.ptr d 0)::fr) ((d,.box t cs')::h)):dops P n dr ops (⟨some d,.box t x,ty,pos,after,g⟩::rest) log K fr h:=by
 subst hn;refine ZaA (ins:=gIns ops g++ZaG x v) (objs:=[(d,none)]) (v:=.ptr d 0) (upd:=[(d,.box t cs)]) (LStep.updV rfl hdn rfl hg _ _ _ _ fun G E fr' h' a w C hi ho=>?_) (Zc7 hg (ZbN hx)) (by simpa using hk) hr;have hk':Ah h' d=none:=ho (d,none) (by simp);obtain⟨r1,r2⟩:=C.oev (ZcE hx hi) (Zao h1);obtain⟨c1,c2⟩:=V.cells_rep hcs r1;have hkeys:∀ j∈V.keyss cs,j∈v.keys:=by
  intro j hj;cases v with
  | agg xs=>simp only[V.cellsOf,Hx] at hcs;subst hcs;simpa[V.keys] using hj
  | d x =>
   exfalso;cases x with
   | agg fs =>
    simp only[V.cellsOf] at hcs;split at hcs
    ·simp only[Hx] at hcs;subst hcs;obtain⟨v,hv,hj⟩:=V.keyss_mem.1 hj;obtain⟨f,_,rfl⟩:=List.mem_map.1 hv;simp[V.keys] at hj
    ·cases hcs
   | raw u=>simp only[V.cellsOf,Hx] at hcs;subst hcs;simp[V.keyss,V.keys] at hj
   | sl t s es=>simp only[V.cellsOf,Hx] at hcs;subst hcs;simp[V.keyss,V.keys] at hj
  | tup vs=>simp[V.cellsOf] at hcs
  | opn p=>simp[V.cellsOf] at hcs
  | junk=>simp[V.cellsOf] at hcs
  | _=>simp only[V.cellsOf,Hx] at hcs;subst hcs;simpa[V.keyss] using hj
 obtain⟨E',C',hb⟩:=C.newBox hk' hlow t c1 c2 (fun j hj=>r2 j (hkeys j hj));refine⟨.pointer (some ⟨w.heap.size,0,none⟩),E',_,?_,C',by simp only[V.Rep];rw[hb],by intro q hq;simp[V.keys] at hq;subst hq;simp[Zai]⟩;simp[execOp,Instr.box,newVar,newRow]
theorem ZvF {f:Fn} {xs:List Operand} {vs:List V} {fst cap:Array Operand} (hdn:Nat.blt d n=true:=by exact rfl) (hg:gOk ops fr g:=by exact Vf) (hf:fst.toList=[]:=by exact rfl) (hc:cap.toList=xs:=by exact rfl) (hx:oevs fr xs vs:=by exact Vt) (h1:xs.all ZaP=true:=by exact rfl)
  (hr:dops P n dr ops rest (⟨(gIns ops g++Zaq xs vs).map Prod.fst,[d],[],[]⟩::log) K ((d,.fn f [] vs)::fr) h):dops P n dr ops (⟨some d,.makeFunc f fst cap,ty,pos,after,g⟩::rest) log K fr h:=by
 refine ZaA (ins:=gIns ops g++Zaq xs vs) (objs:=[]) (v:=.fn f [] vs) (upd:=[]) (LStep.pure rfl hdn rfl hg _ _ _ fun G E fr' h' a w C hi _=>?_) (Zc7 hg (ZbK hx)) (by simp) hr;obtain⟨r1,r2⟩:=ZdB C (Zcy hx hi) h1;refine⟨.func f #[] (xs.map a.eval).toArray,?_,?_,by simpa[V.keys,V.keyss] using r2⟩
 ·have e1:fst=#[]:=by rw[←Array.toArray_toList (xs:=fst),hf]
  have e2:cap=xs.toArray:=by rw[←hc]
  simp[execOp,Instr.makeFunc,e1,e2]
 ·simp only[V.Rep];exact⟨[],_,by simp,by simp[V.Reps],r1⟩
def Zek:List V→Nat→List V→List V
 | cs,0,vs=>vs++cs.drop vs.length
 | c::cs,off+1,vs=>c::Zek cs off vs
 | [],_+1,_=>[]
theorem Zlq:∀ (cs:List V) (off:Nat) (vs:List V),off≤cs.length→Zek cs off vs=cs.take off++vs++cs.drop (off+vs.length)
 | cs,0,vs,_=>by cases cs <;> simp[Zek]
 | c::cs,off+1,vs,h=>by
  simp only[Zek,GT,Hv];rw[Zlq cs off vs (by simpa using h),show off+1+vs.length=(off+vs.length)+1 by omega,GZ]
 | [],off+1,vs,h=>by simp at h
def ZvG (fields:List (Nat×Nat)):List V→List (Nat×V)→Option (List V)
 | cs,[]=>some cs
 | cs,(i,v)::r=>match fields[i]?,v.cellsOf with
  | some (off,sz),some vs=>match Nat.beq vs.length sz,Nat.ble (off+sz) cs.length with
   | true,true=>ZvG fields (Zek cs off vs) r
   | _,_=>none
  | _,_=>none
theorem Zlr {E:Env} {h:Hp} {M:Bars} {w:World} {cs vs:List V} {us xs:List Value} {off:Nat} (r:V.Reps E h M w cs us) (q:V.Reps E h M w vs xs) (hl:off≤cs.length):V.Reps E h M w (Zek cs off vs) (us.take off++xs++us.drop (off+xs.length)):=by
 rw[Zlq cs off vs hl,←q.length];exact ((r.take off).append q).append (r.drop _)
theorem ZfE {v:V} {cs:List V} (hcs:v.cellsOf=some cs):∀ j∈V.keyss cs,j∈v.keys:=by
 intro j hj;cases v with
 | agg xs=>simp only[V.cellsOf,Hx] at hcs;subst hcs;simpa[V.keys] using hj
 | d x =>
  exfalso;cases x with
  | agg fs =>
   simp only[V.cellsOf] at hcs;split at hcs
   ·simp only[Hx] at hcs;subst hcs;obtain⟨v,hv,hj⟩:=V.keyss_mem.1 hj;obtain⟨f,_,rfl⟩:=List.mem_map.1 hv;simp[V.keys] at hj
   ·cases hcs
  | raw u=>simp only[V.cellsOf,Hx] at hcs;subst hcs;simp[V.keyss,V.keys] at hj
  | sl t s es=>simp only[V.cellsOf,Hx] at hcs;subst hcs;simp[V.keyss,V.keys] at hj
 | tup vs=>simp[V.cellsOf] at hcs
 | opn p=>simp[V.cellsOf] at hcs
 | junk=>simp[V.cellsOf] at hcs
 | _=>simp only[V.cellsOf,Hx] at hcs;subst hcs;simpa[V.keyss] using hj
theorem Zjp {cs vs:List V} {off j:Nat} (hl:off≤cs.length) (hj:j∈V.keyss (Zek cs off vs)):j∈V.keyss cs∨j∈V.keyss vs:=by
 rw[Zlq cs off vs hl] at hj;obtain⟨v,hv,hj⟩:=V.keyss_mem.1 hj;simp only[HV] at hv;rcases hv with (hv|hv)|hv
 ·exact .inl (V.keyss_mem.2 ⟨v,Gf hv,hj⟩)
 ·exact .inr (V.keyss_mem.2 ⟨v,hv,hj⟩)
 ·exact .inl (V.keyss_mem.2 ⟨v,G5 hv,hj⟩)
theorem ZqD {E:Env} {h:Hp} {M:Bars} {w:World} {fields:List (Nat×Nat)}:∀ {ps:List (Nat×V)} {qs:List (Nat×Value)} {cs cs':List V} {us:List Value},V.Reps E h M w cs us→(∀ x∈us,x.oneCell'=true)→ps.map Prod.fst=qs.map Prod.fst→V.Reps E h M w (ps.map Prod.snd) (qs.map Prod.snd) →
  ZvG fields cs ps=some cs'→∃ us':List Value,Instr.fill (fun i=>fields[i]?) us.toArray qs=some us'.toArray∧V.Reps E h M w cs' us'∧(∀ x∈us',x.oneCell'=true)∧(∀ j∈V.keyss cs',j∈V.keyss cs∨j∈V.keyss (ps.map Prod.snd))
 | [],qs,cs,cs',us,r,h1,hf,_,hb=>by
  have:qs=[]:=by cases qs <;> simp_all
  subst this;simp only[ZvG,Hx] at hb;subst hb;exact⟨us,rfl,r,h1,fun j hj=>.inl hj⟩
 | (i,v)::ps,[],_,_,_,_,_,hf,_,_=>by simp at hf
 | (i,v)::ps,(j,u)::qs,cs,cs',us,r,h1,hf,hr,hb=>by
  simp only[Hm,Hz] at hf;obtain⟨rfl,hf⟩:=hf;simp only[Hm,V.Reps] at hr;obtain⟨x,y,hxy,hv,hr⟩:=hr;simp only[Hz] at hxy;obtain⟨rfl,rfl⟩:=hxy;simp only[ZvG] at hb;cases hfi:fields[i]? with
  | none=>rw[hfi] at hb;simp at hb
  | some p =>
   obtain⟨off,sz⟩:=p;cases hvc:v.cellsOf with
   | none=>rw[hfi,hvc] at hb;simp at hb
   | some vs =>
    rw[hfi,hvc] at hb;simp only at hb;cases e1:Nat.beq vs.length sz with
    | false=>rw[e1] at hb;simp at hb
    | true =>
     cases e2:Nat.ble (off+sz) cs.length with
     | false=>rw[e1,e2] at hb;simp at hb
     | true =>
      rw[e1,e2] at hb;simp only at hb;have hsz:=HQ e1;have hle:=Jf e2;obtain⟨c1,c2⟩:=V.cells_rep hvc hv;have hcl:=c1.length;have hul:=r.length;have hs:=Zlr r c1 (off:=off) (by omega);have hone:∀ x∈us.take off++u.cells.toList++us.drop (off+u.cells.toList.length),x.oneCell'=true:=by
       intro x hx;simp only[HV] at hx;rcases hx with (hx|hx)|hx
       ·exact h1 x (Gf hx)
       ·exact c2 x hx
       ·exact h1 x (G5 hx)
      obtain⟨us',k1,k2,k3,k4⟩:=ZqD hs hone hf hr hb;refine⟨us',?_,k2,k3,fun j hj=>?_⟩
      ·simp only[Instr.fill,hfi];have n1:u.cells.size=sz:=(by rw[←hsz,←hcl];simp);have n2:¬ (u.cells.size≠sz∨off+u.cells.size > us.toArray.size):=(by simp[n1];omega);have n3:(decide (u.cells.size≠sz) || decide (off+u.cells.size > us.toArray.size))=false:=(by simp[n1];omega);rw[Ha (by simp[n1];omega)];rw[←k1];congr 1;apply Array.ext_getElem?;intro k;have hfs:=(Great.foldl_set off u.cells.toList 0 us.toArray).2 k;simp only[Gx] at hfs;have e3:(u.cells.zipIdx.foldl (fun cs (x:Value×Nat)=>cs.setIfInBounds (off+x.2) x.1) us.toArray)=((u.cells.toList.zipIdx 0).foldl (fun cs (x:Value×Nat)=>cs.setIfInBounds (off+x.2) x.1) us.toArray):=by
        rw[←Array.foldl_toList];simp
       show (u.cells.zipIdx.foldl (fun cs (x:Value×Nat)=>cs.setIfInBounds (off+x.2) x.1) us.toArray)[k]? = _;rw[e3,hfs];simp only[JB,JU,Jy,n1];have hl0:u.cells.toList.length=sz:=(by simp[n1]);rw[HH,List.getElem?_append,List.getElem?_append,GC,Gy,Hs,hl0,Gs (by omega)];by_cases q1:k < off
       ·rw[Ha (by omega),Hb q1,Hb q1]
       ·rw[Ha q1];by_cases q2:k < off+sz
        ·rw[Hb ⟨by omega,q2,by omega⟩,Hb (by omega)]
        ·rw[Ha (by omega),Ha (by omega)];congr 1;omega
      ·rcases k4 j hj with hj|hj
       ·rcases Zjp (by omega) hj with hj|hj
        ·exact .inl hj
        ·exact .inr (by simp only[Hm,V.keyss,HV];exact .inl (ZfE hvc j hj))
       ·exact .inr (by simp only[Hm,V.keyss,HV];exact .inr hj)
theorem Zm3 (w:World):∀ (l:List Field),(∀ f∈l,P.cellsOf f.type≠0)→(l.mapM (fun f=>do pure (f.offset,←sizeOf f.type):Field→Sem (Nat×Nat))).run P w=.ok (l.map fun f=>(f.offset,P.cellsOf f.type)) w
 | [],_=>by simp
 | f::l,h=>by
  have ih:=Zm3 w l (fun f hf=>h f (by simp[hf]));have hs:(sizeOf f.type).run P w=.ok (P.cellsOf f.type) w:=by
   have h0:=h f (by simp);unfold Program.cellsOf at h0 ⊢;unfold sizeOf typeInfo;cases hq:P.info? f.type with
   | none=>rw[hq] at h0;simp at h0
   | some j=>simp[hq]
  simp only[List.mapM_cons,Sem.run_bind,hs,Result.andThen_ok,ih,Sem.run_pure,Hm]
theorem ZDq {t:TypeId} {parts:Array (Nat×Operand)} {xs:List Operand} {vs:List V} {y:Ty} {z:Value} {is:List Nat} {cs:List V} (hdn:Nat.blt d n=true:=by exact rfl) (hg:gOk ops fr g:=by exact Vf) (hp:parts.toList.map Prod.snd=xs:=by exact rfl) (hpi:parts.toList.map Prod.fst=is:=by exact rfl) (hx:oevs fr xs vs:=by exact Vt) (h1:xs.all ZaP=true:=by exact rfl)
  (ht:T.rows[t]? = some y:=by exact rfl) (hz:y.zero=some z:=by exact rfl) (hz1:Zej z=true:=by exact rfl) (hf:y.fields.isEmpty=false:=by exact rfl) (hfs:y.fields.all (fun p=>!Nat.beq p.2 0)=true:=by exact rfl) (hb:ZvG y.fields (ZgF z) (is.zip vs)=some cs:=by exact rfl) {cs':List V} (hn:cs=cs':=by exact Vj)
  (hr:dops P n dr ops rest (⟨(gIns ops g++Zaq xs vs).map Prod.fst,[d],[],[]⟩::log) K ((d,.agg cs')::fr) h):dops P n dr ops (⟨some d,.build t parts,ty,pos,after,g⟩::rest) log K fr h:=by
 subst hn;refine ZaA (ins:=gIns ops g++Zaq xs vs) (objs:=[]) (v:=.agg cs) (upd:=[]) (LStep.pure rfl hdn rfl hg _ _ _ fun G E fr' h' a w C hi _=>?_) (Zc7 hg (ZbK hx)) (by simp) hr;obtain⟨r1,r2⟩:=ZdB C (Zcy hx hi) h1;obtain⟨z1,z2,z3⟩:=ZqC (E:=E) (h:=h') (M:=bars E h' G.o) (w:=w) hz1;obtain⟨i,ds,k1,k2,_,_,_,k6,_,_,k9⟩:=ZaH (T.at ht);obtain⟨fs,rfl,k10⟩:=k9 (by intro e;rw[e] at hf;simp at hf);have hlen:is.length=vs.length:=by
  have q1:is.length=parts.toList.length:=by rw[←hpi];simp
  have q2:xs.length=parts.toList.length:=by rw[←hp];simp
  have q3:=r1.length;simp at q3;omega
 let qs:List (Nat×Value):=parts.toList.map fun p=>(p.1,a.eval p.2)
 have hq1:(is.zip vs).map Prod.fst=qs.map Prod.fst:=by
  rw[List.map_fst_zip (by omega),←hpi];simp[qs]
 have hq2:(is.zip vs).map Prod.snd=vs:=List.map_snd_zip (by omega);have hq3:qs.map Prod.snd=xs.map a.eval:=by rw[←hp];simp[qs]
 obtain⟨us',f1,f2,f3,f4⟩:=ZqD z1 z2 hq1 (by rw[hq2,hq3];exact r1) hb;refine⟨.agg us'.toArray,?_,by simp only[V.Rep];exact⟨us',rfl,f2,f3⟩,fun j hj=>?_⟩
 ·have hzz:(zeroValue t).run P w=.ok z w:=by
   unfold zeroValue typeInfo;simp[k1,k6,hz]
  have e0:fs=fs.toList.toArray:=by simp
  have hpl:(fs.mapM (fun f=>do pure (f.offset,←sizeOf f.type):Field→Sem (Nat×Nat))).run P w=.ok y.fields.toArray w:=by
   rw[e0,List.mapM_toArray];have:=Zm3 (P:=P) w fs.toList (fun f hf'=>by
    have:=List.all_eq_true.1 hfs (f.offset,P.cellsOf f.type) (by rw[k10];exact List.mem_map.2 ⟨f,hf',rfl⟩);intro e;rw[e] at this;simp at this)
   rw[←k10] at this;simp only[Sem.run_map,this,Result.andThen_ok]
  have hparts:(parts.map fun p=>(p.1,a.eval p.2)).toList=qs:=by simp[qs]
  have hfill:Instr.fill (fun i=>y.fields.toArray[i]?) z.cells (parts.map fun p=>(p.1,a.eval p.2)).toList=some us'.toArray:=by
   rw[hparts];simpa using f1
  have hfin:(Instr.build t (parts.map fun p=>(p.1,a.eval p.2))).run P w=.ok (.agg us'.toArray) w:=by
   unfold Instr.build;simp only[Sem.run_bind,hzz,Result.andThen_ok,run_underlying k2,hpl,hfill,Sem.run_pure]
  simp only[execOp,Sem.run_bind,hfin,Result.andThen_ok,Sem.run_pure]
 ·simp only[V.keys] at hj;rcases f4 j hj with hj|hj
  ·rw[z3] at hj;simp at hj
  ·rw[hq2] at hj;exact r2 j hj
end
section
variable {h:Hp}
variable {d:Nat} {ty:TypeId} {pos:String} {after:Array Edge} {g:Option (Nat×Bool)}
variable (T:TT P)
theorem Zls {α:Type}:∀ (l:List (Nat×α)) (k:Nat),l.map Prod.fst=List.range' k l.length→l=((l.map Prod.snd).zipIdx k).map (fun x=>(x.2,x.1))
 | [],_,_=>rfl
 | (i,x)::l,k,h=>by
  simp only[Hm,Hl,JE,Hz] at h;obtain⟨rfl,h⟩:=h;simp only[Hm,List.zipIdx_cons,Hz,true_and];exact Zls l (i+1) h
theorem Zl0 {t e:TypeId} {y ye:Ty} {z:Value} (ht:T.rows[t]? = some y) (he:y.elem=some e) (hte:T.rows[e]? = some ye) (hz:ye.zero=some z) (hs0:0 < ye.size) {len:Nat} (hlen:len * ye.size≤16777216) {qs:List (Nat×Value)} {us:List Value}
  (hq:qs=(us.zipIdx 0).map fun x=>(x.2,x.1)) (hu:us.length=len) (hus:∀ u∈us,u.cells.size=ye.size) (w:World) :
  (Instr.buildSlice t len qs.toArray).run P w=.ok (.slice (some ⟨w.heap.size,0,none⟩) len len) (w.alloc (.cells (us.flatMap fun u=>u.cells.toList).toArray e)):=by
 obtain⟨_,ds,_,h2,_,_,_,_,h7,_⟩:=ZaH (T.at ht);obtain⟨j,_,g1,_,g3,_,_,g6,_⟩:=ZaH (T.at hte);have hds:=h7 e he;subst hds;have hfill:∀ cells:Array Value,cells.size=len * ye.size→Instr.fill (fun i=>some (i * ye.size,ye.size)) cells qs=some (us.flatMap fun u=>u.cells.toList).toArray:=fun cells hc=>by
  rw[hq];exact Great.fill_whole hs0 us cells hus (by rw[hu,hc])
 have n1:¬ (16777216 < len * ye.size):=by omega
 by_cases h0:len * ye.size=0
 ·have:=hfill (Array.map (fun _=>default) (Array.range 0)) (by simp[h0]);simp[Instr.buildSlice,run_underlying h2,sizeOf,typeInfo,g1,g3,h0,newRow,this]
 ·have hzz:(zeroValue e).run P w=.ok z w:=by
   unfold zeroValue typeInfo;simp[g1,g6,hz]
  have:=hfill ((Array.range (len * ye.size)).map (z.cells[· % z.cells.size]!)) (by simp);simp[Instr.buildSlice,run_underlying h2,sizeOf,typeInfo,g1,g3,n1,h0,newRow,hzz,this]
theorem ZqE {t e len:Nat} {parts:Array (Nat×Operand)} {xs:List Operand} {vs:List V} {Ds:List D} {objs:List (Nat×Option Ob)} {fz:Hp} {y ye:Ty} {z:Value} {sz:Nat} (hdn:Nat.blt d n=true:=by exact rfl) (hlow:Nat.blt d 1000=true:=by exact rfl) (hg:gOk ops fr g:=by exact Vf)
  (hp:parts.toList.map Prod.snd=xs:=by exact rfl) (hpi:parts.toList.map Prod.fst=List.range' 0 len:=by exact rfl) (hx:oevs fr xs vs:=by exact Vt) (h1:xs.all ZaP=true:=by exact rfl) (hk:Ah h d=none:=by exact rfl) (he:EmbVs h vs Ds objs fz:=by repeat' (first|exact EmbVs.nil|apply EmbVs.cons|exact Aq.one (.d _)|exact Aq.one (.own rfl Vg)|exact Aq.one (.frz rfl Vg)|exact Aq.one (.full _ _ _)|apply Aq.agg|exact Embs.nil|apply Embs.cons|exact Emb.d _|exact Emb.own rfl Vg|exact Emb.frz rfl Vg|exact Emb.full _ _ _))
  (ht:T.rows[t]? = some y:=by exact rfl) (hel:y.elem=some e:=by exact rfl) (hte:T.rows[e]? = some ye:=by exact rfl) (hz:ye.zero=some z:=by exact rfl) (hsz:ye.size=sz:=by exact Vu) (hs0:Nat.blt 0 sz=true:=by exact rfl) (hDs:Ds.all (fun x=>Nat.beq x.size sz)=true:=by exact rfl) (hlen:Nat.ble (len * sz) 16777216=true:=by exact rfl)
  (hr:dops P n dr ops rest (⟨(gIns ops g++Zaq xs vs).map Prod.fst,[d],((d,none)::objs).map Prod.fst,((d,Ob.row e sz Ds)::fz).map Prod.fst⟩::log) K ((d,.own d len)::fr) (((d,.row e sz Ds)::fz)++h)):dops P n dr ops (⟨some d,.buildSlice t len parts,ty,pos,after,g⟩::rest) log K fr h:=by
 refine ZaA (ins:=gIns ops g++Zaq xs vs) (objs:=(d,none)::objs) (v:=.own d len) (upd:=(d,.row e sz Ds)::fz) (LStep.updV rfl hdn rfl hg _ _ _ _ fun G E fr' h' a w C hi ho=>?_) (Zc7 hg (ZbK hx)) (Am.cons hk he.objs) hr;have hk':Ah h' d=none:=ho (d,none) (by simp);have he':EmbVs h' vs Ds objs fz:=he.of (fun p hp=>ho p (by simp[hp]));have hx':=Zcy hx hi;have C1:=C.frozs he'.fz;obtain⟨r1,r2⟩:=ZdB C1 hx' h1;have hco:=(he'.co he'.fz (fun _ hp=>hp)).reps C1.heap C1.sub r1;subst hsz;have hsizes:∀ x∈Ds,x.size=ye.size:=fun x hx=>by simpa using HQ (List.all_eq_true.1 hDs x hx)
 have hus:=Zm2 hco hsizes;have hds:=ZyZ hco;have hlenp:len=parts.toList.length:=by
  have:=Hy List.length hpi;simpa using this.symm
 have hul:(xs.map a.eval).length=len:=by rw[Hi,←hp,Hi,hlenp]
 have hDl:Ds.length=len:=by have:=hco.length;simp at this;rw[←this];simpa using hul
 have hq:(parts.toList.map fun p=>(p.1,a.eval p.2))=((xs.map a.eval).zipIdx 0).map fun x=>(x.2,x.1):=by
  have:=Zls (parts.toList.map fun p=>(p.1,a.eval p.2)) 0 (by simp only[H8,Hi];rw[←hlenp];simpa[Function.comp_def] using hpi);rw[this];congr 2;rw[←hp];simp
 have hrun:=Zl0 T ht hel hte hz (by simpa[HU] using hs0) (Jf hlen) hq hul hus w;have hkz:Ah (fz++h') d=none:=by
  rw[ZaL];cases hq:Ah fz d with
  | none=>exact hk'
  | some ob =>
   exfalso;have:∀ {u:Hp} {o':Ob},Ah u d=some o'→(d,o')∈u:=by
    intro u
    induction u with
    | nil=>intro o' q;simp[Ah] at q
    | cons p u ih =>
     intro o' q;obtain⟨j,ob⟩:=p;by_cases ej:j=d
     ·subst ej;rw[Zai] at q;cases q;simp
     ·rw[Zar _ _ ej] at q;exact HK _ (ih q)
   obtain⟨_,_,_,_,q2⟩:=he'.fz _ (this hq);simp only at q2;rw[hk'] at q2;cases q2
 have hfl:=hds.length;rw[D.sizes_eq hsizes,hDl] at hfl;have hs0':0 < ye.size:=by simpa[HU] using hs0
 obtain⟨E',C',hE⟩:=C1.newRow (e:=e) (sz:=ye.size) (xs:=Ds) (v:=.slice (some ⟨w.heap.size,0,none⟩) len len) hkz hlow (Ext.new w (.cells ((xs.map a.eval).flatMap fun u=>u.cells.toList).toArray e)) (fun b hb=>by simp[obOf] at hb;omega) (fun M' hM=>by
  refine⟨hsizes,?_⟩;by_cases h0:len=0
  ·exact .inl ⟨_,by rw[h0],HX (by omega)⟩
  ·refine .inr ⟨w.heap.size,0,len,_,by rw[hDl],by omega,heap_alloc_new w _,by omega,?_,?_,?_⟩
   ·have:=Jf hlen;have h2:len * 1≤len * ye.size:=Ji _ hs0';simp[maxLen];omega
   ·simp only[JB];omega
   ·simp only[Gl];rw[H6 (by rw[hDl];omega)];exact hds.carry hM)
 refine⟨.slice (some ⟨w.heap.size,0,none⟩) len len,E',_,?_,C',?_,by intro q hq;simp[V.keys] at hq;subst hq;simp[Zai]⟩
 ·show (do let x ←Instr.buildSlice t len (parts.map fun p=>(p.1,a.eval p.2));pure (Next.value x):Sem Next).run P w=_;have e0:(parts.map fun p=>(p.1,a.eval p.2))=(parts.toList.map fun p=>(p.1,a.eval p.2)).toArray:=by rw[←Array.toList_map,Array.toArray_toList]
  rw[e0,Sem.run_bind,hrun];rfl
 ·simp only[V.Rep];exact⟨len,.inl ⟨e,ye.size,Ds,Zai _ _ _,hDl⟩,Hg _,rfl,fun _=>hE.symm⟩
def Zl1:Value→D
 | .agg cs=>.agg (cs.toList.map .raw)
 | v=>.raw v
theorem Zy0 {M:Bars} {w:World} {z:Value} (hz:Zej z=true):(Zl1 z).Rep M w z.cells.toList:=by
 have key:∀ (l:List Value),l.all Value.oneCell'=true→D.Reps M w (l.map .raw) l:=by
  intro l
  induction l with
  | nil=>intro _;simp[D.Reps]
  | cons u l ih =>
   intro ha;simp only[GG,Hr] at ha;simp only[Hm,D.Reps];exact⟨[u],l,rfl,by simp[D.Rep,ha.1],ih ha.2⟩
 cases z with
 | agg cs=>simpa[Zl1,D.Rep,Value.cells] using key cs.toList hz
 | _=>simp only[Zej] at hz;simp[Zl1,D.Rep,Value.cells,hz]
theorem ZgM {M:Bars} {w:World} {x:D} {c:List Value} (hx:x.Rep M w c):∀ m,D.Reps M w (List.replicate m x) (List.replicate m c).flatten
 | 0=>by simp[D.Reps]
 | m+1=>by
  simp only[G7,D.Reps,GE];exact⟨c,_,rfl,hx,ZgM hx m⟩
theorem ZqF {z:Array Value} (m:Nat) (hz:0 < z.size):(madeCells z (m * z.size)).toList=(List.replicate m z.toList).flatten:=by
 apply List.ext_getElem?;intro i;have h1:(madeCells z (m * z.size)).toList[i]? = if i < m * z.size then z[i % z.size]? else none:=by
  simp only[madeCells,Array.toList_map,Array.toList_range,Gg];by_cases hi:i < m * z.size
  ·rw[Hb hi,JM hi];simp[Nat.mod_lt i hz]
  ·rw[Ha hi,HI (by simp;omega)];rfl
 rw[h1]
 induction m generalizing i with
 | zero=>simp
 | succ m ih =>
  simp only[G7,GE,List.getElem?_append,Jy];by_cases hi:i < z.size
  ·rw[Hb (by rw[Gb];omega),Hb hi,Nat.mod_eq_of_lt hi];simp
  ·rw[Ha hi];have ih':=ih (i - z.size) (by
    simp only[madeCells,Array.toList_map,Array.toList_range,Gg];by_cases hi:i - z.size < m * z.size
    ·rw[Hb hi,JM hi];simp[Nat.mod_lt _ hz]
    ·rw[Ha hi,HI (by simp;omega)];rfl)
   rw[←ih'];by_cases h2:i < (m+1) * z.size
   ·rw[Hb h2,Hb (by rw[Gb] at h2;omega)];rw[Nat.mod_eq_sub_mod (by omega)]
   ·rw[Ha h2,Ha (by rw[Gb] at h2;omega)]
theorem Zsb {t e m:Nat} {xl xc:Operand} {c:Int} {y ye:Ty} {z:Value} {sz:Nat} (hdn:Nat.blt d n=true:=by exact rfl) (hlow:Nat.blt d 1000=true:=by exact rfl) (hg:gOk ops fr g:=by exact Vf) (hx:oev fr xl=I c:=by exact rfl) (hx2:oev fr xc=I c:=by exact rfl) (hc:c=(m:Int):=by exact Vp) (hk:Ah h d=none:=by exact rfl)
  (ht:T.rows[t]? = some y:=by exact rfl) (hel:y.elem=some e:=by exact rfl) (hte:T.rows[e]? = some ye:=by exact rfl) (hz:ye.zero=some z:=by exact rfl) (hsz:ye.size=sz:=by exact rfl) (hs0:Nat.blt 0 sz=true:=by exact rfl) (hz1:Zej z=true:=by exact rfl) (hzs:Nat.beq z.cells.toList.length sz=true:=by exact rfl) (hby:m * ye.bytes≤281474976710656:=by ((try dsimp only);((try simp only[Hi,Hk,Hl,HB,HM,HJ,Hs,HG]);first|omega|assumption))) (hm:m≤4611686018427387904:=by exact Vm)
  (hr:dops P n dr ops rest (⟨(gIns ops g++Zaq [xl,xc] [I c,I c]).map Prod.fst,[d],[d],[d]⟩::log) K ((d,.own d m)::fr) ((d,.row e sz (List.replicate m (Zl1 z)))::h)):dops P n dr ops (⟨some d,.makeSlice t xl xc,ty,pos,after,g⟩::rest) log K fr h:=by
 subst hc;subst hsz;refine ZaA (ins:=gIns ops g++Zaq [xl,xc] [I m,I m]) (objs:=[(d,none)]) (v:=.own d m) (upd:=[(d,.row e ye.size (List.replicate m (Zl1 z)))]) (LStep.updV rfl hdn rfl hg _ _ _ _ fun G E fr' h' a w C hi ho=>?_) (Zc7 hg (ZbK ⟨hx,hx2,trivial⟩)) (by simpa using hk) hr;have hk':Ah h' d=none:=ho (d,none) (by simp);have hx':=Zcy (xs:=[xl,xc]) (vs:=[I m,I m]) ⟨hx,hx2,trivial⟩ hi;simp only[oevs] at hx';have ev:a.eval xl=.int .i64 m∧a.eval xc=.int .i64 m:=by
  obtain⟨r1,_⟩:=C.oev hx'.1 (Zao (Zap hx rfl));obtain⟨r2,_⟩:=C.oev hx'.2.1 (Zao (Zap hx2 rfl));simp only[V.Rep,D.RepV,D.Rep,Hz,HA] at r1 r2;exact⟨r1.1,r2.1⟩
 obtain⟨_,ds,_,k2,_,_,_,_,k7,_⟩:=ZaH (T.at ht);obtain⟨j,_,g1,_,g3,g4,_,g6,_⟩:=ZaH (T.at hte);have hds:=k7 e hel;subst hds;have hzl:z.cells.size=ye.size:=by have:=HQ hzs;simpa using this
 have h0:0 < ye.size:=by simpa[HU] using hs0
 have hby':(j.bytes:Int) * (m:Int)≤281474976710656:=by
  rw[g4];have:((m * ye.bytes:Nat):Int)≤281474976710656:=by omega
  rwa [Int.natCast_mul,Int.mul_comm] at this
 have hrun:=run_make (P:=P) w t e j z k2 g1 (by rw[g6,hz]) .i64 .i64 (m:Int) (m:Int) (by omega) (Ja _) hby' (by omega);simp only[Hn] at hrun;rw[g3] at hrun;have hzr:=Zy0 (M:=bars E h' G.o) (w:=w) hz1;have hzsz:(Zl1 z).size=ye.size:=by have:=hzr.length;simp at this;omega
 have hsizes:∀ x∈List.replicate m (Zl1 z),x.size=ye.size:=fun x hx=>by rw[(List.mem_replicate.1 hx).2];exact hzsz
 obtain⟨E',C',hE⟩:=C.newRow (e:=e) (sz:=ye.size) (xs:=List.replicate m (Zl1 z)) (v:=.slice (some ⟨w.heap.size,0,none⟩) m m) hk' hlow (Ext.new w (.cells (madeCells z.cells (m * ye.size)) e)) (fun b hb=>by simp[obOf] at hb;omega) (fun M' hM=>by
  refine⟨hsizes,?_⟩;by_cases hm0:m=0
  ·exact .inl ⟨_,by rw[hm0],by simp[hm0]⟩
  ·refine .inr ⟨w.heap.size,0,m,_,by simp,by omega,heap_alloc_new w _,by simp,by simp[maxLen];omega,?_,?_⟩
   ·simp[size_madeCells]
   ·have hcells:(madeCells z.cells (m * ye.size)).toList=(List.replicate m z.cells.toList).flatten:=(by rw[←hzl];exact ZqF m (by omega));simp only[Gl,HM];rw[hcells,H6]
    ·exact (ZgM hzr m).carry hM
    ·simp[hzl])
 refine⟨.slice (some ⟨w.heap.size,0,none⟩) m m,E',_,?_,C',?_,by intro q hq;simp[V.keys] at hq;subst hq;simp[Zai]⟩
 ·simp only[execOp,ev.1,ev.2,Sem.run_bind,hrun,Result.andThen_ok,Sem.run_pure]
 ·simp only[V.Rep];exact⟨m,.inl ⟨e,ye.size,_,Zai _ _ _,by simp⟩,Hg _,rfl,fun _=>hE.symm⟩
theorem Zh6 {w:World} {t bt:TypeId} {y:Ty} {b off:Nat} {cur:Array Value} {u:Value} (ht:T.rows[t]? = some y) (hb:w.heap[b]? = some (.cells cur bt (0,0))) (hu:u.cells.size=y.size) (hfit:off+y.size≤cur.size) (h1:∀ x∈u.cells.toList,x.oneCell'=true) :
  (Instr.storeAt t (.pointer (some ⟨b,off,none⟩)) u).run P w=.ok () (w.setRow b (cur.toList.take off++u.cells.toList++cur.toList.drop (off+u.cells.toList.length)).toArray):=by
 obtain⟨i,_,g1,_,g3,_⟩:=ZaH (T.at ht);have hst:=run_storeCells_at P b off bt u.cells.toList 0 cur w hb (by simp;omega) h1;simp only[Gx] at hst;have hs:(sizeOf t).run P w=.ok y.size w:=by unfold sizeOf typeInfo;simp[g1,g3]
 simp only[Instr.storeAt,Instr.sureAddr,Sem.run_bind,Sem.run_pure,Result.andThen_ok,storeVar,hs];rw[Ha (by simp[hu])];exact hst
theorem ZDr {x yv:Operand} {t bt:TypeId} {k off:Nat} {cs vcs:List V} {v:V} {y:Ty} (hg:gOk ops fr g:=by exact Vf) (hx:oev fr x=.ptr k off:=by exact rfl) (hy:oev fr yv=v:=by exact Vu) (h1:ZaP yv=true:=by exact rfl) (hk:Ah h k=some (.box bt cs):=by exact rfl) (hv:v.cellsOf=some vcs:=by exact rfl) (ht:T.rows[t]? = some y:=by exact rfl) (hl:Nat.beq vcs.length y.size=true:=by exact rfl) (hfit:Nat.ble (off+vcs.length) cs.length=true:=by exact rfl) {cs':List V} (hn:Zek cs off vcs=cs':=by exact Vj)
  (hr:dops P n dr ops rest (⟨(gIns ops g++Zaq [x,yv] [.ptr k off,v]).map Prod.fst,[],[k],[k]⟩::log) K fr ((k,.box bt cs')::h)):dops P n dr ops (⟨none,.store t x yv,ty,pos,after,g⟩::rest) log K fr h:=by
 subst hn;refine ZaA (ins:=gIns ops g++Zaq [x,yv] [.ptr k off,v]) (objs:=[(k,some (.box bt cs))]) (v:=.junk) (upd:=[(k,.box bt (Zek cs off vcs))]) (LStep.updS rfl rfl hg _ _ _ fun G E fr' h' a w C hi ho=>?_) (Zc7 hg (ZbK ⟨hx,hy,trivial⟩)) (by simpa using hk) hr;have hk':Ah h' k=some (.box bt cs):=ho (k,_) (by simp);have hx':=Zcy (xs:=[x,yv]) (vs:=[.ptr k off,v]) ⟨hx,hy,trivial⟩ hi;simp only[oevs] at hx';obtain⟨p1,_⟩:=C.oev hx'.1 (Zao (Zap hx rfl));obtain⟨q1,q2⟩:=C.oev hx'.2.1 (Zao h1);simp only[V.Rep] at p1;obtain⟨c1,c2⟩:=V.cells_rep hv q1;have hcl:=c1.length;obtain⟨us,g1,g2,g3⟩:=C.heap.obs k _ hk';have hul:=g2.length;have hle:=Jf hfit;have hle2:=HQ hl;have hsz:(a.eval yv).cells.size=y.size:=by rw[←hle2,←hcl];simp
 have hrun:=Zh6 T (w:=w) (off:=off) ht g1 hsz (by simp;omega) c2;have hs:=Zlr g2 c1 (off:=off) (by omega);refine⟨E,_,?_,C.setBox hk' hs (fun z hz=>?_) (fun j hj=>?_)⟩
 ·simp only[execOp,p1,Sem.run_bind,hrun,Result.andThen_ok,Sem.run_pure]
 ·simp only[HV] at hz;rcases hz with (hz|hz)|hz
  ·exact g3 z (Gf hz)
  ·exact c2 z hz
  ·exact g3 z (G5 hz)
 ·rcases Zjp (by omega) hj with hj|hj
  ·exact C.heap.closed k _ hk' j (by simpa[Ob.keys] using hj)
  ·exact q2 j (ZfE hv j hj)
end
end Go.Proofs.YtbpmepgnjanhnaaGreat
