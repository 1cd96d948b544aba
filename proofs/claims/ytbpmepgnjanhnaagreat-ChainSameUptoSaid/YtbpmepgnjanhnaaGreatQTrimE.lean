import Derived.Test.YtbpmepgnjanhnaaGreatQTrA
set_option linter.unusedVariables false
set_option linter.unusedSimpArgs false
set_option linter.unusedSectionVars false
set_option maxHeartbeats 16000000
set_option maxRecDepth 100000
namespace Go.Proofs.YtbpmepgnjanhnaaGreat
open Go.RowKit
theorem Zf8 (g:Ac):∀ (rs:List Rule) (i:Nat),(∀ r∈rs,r.right.length≤10)→∀ l∈Zbt g rs i,Aj l≤11
 | [],_,_,l,h=>by simp[Zbt] at h
 | r::rs,i,hr,l,h=>by
  rw[Zbt] at h;have hk:=Zbj r.right;have h10:=hr r (by simp);split at h
  ·rcases List.mem_cons.1 h with rfl|h
   ·rw[Zqg];omega
   ·exact Zf8 g rs (i+1) (fun r h=>hr r (by simp[h])) l h
  ·exact Zf8 g rs (i+1) (fun r h=>hr r (by simp[h])) l h
theorem Zys (g:Ac):(Zf6 g).1.fit:=by
 by_cases h:(Zac g).code=0
 ·rw[Zf6,Hb h];have hg:=Zbd h;have hk:=Zgp hg;have hl:(Zbt g g.Aa 0).length≤160:=by rw[tLen];exact hk.Aa
  exact⟨hk.fit,(by show (Zbt g g.Aa 0).length≤_;omega),fun l hm=>Hq (Zf8 g g.Aa 0 hg.right l hm) (by decide),by simp[ZaZ,cnts]⟩
 ·rw[Zf6,Ha h];exact Zf7
theorem Zvr {g:Ac} (h:(Zf6 g).2.code=0):Zam g (Zf6 g).1=⟨0,0⟩:=by
 by_cases h0:(Zac g).code=0
 ·rw[Zf6,Hb h0];exact Zla (Zbd h0)
 ·rw[Zf6,Ha h0] at h;exact absurd h h0
mutual
def asF:Tree→Ad
 | .mk r k=>.mk 1 r (asFs k)
def asFs:List Tree→List Ad
 | []=>[]
 | x::l=>asF x::asFs l
end
theorem ZtE:∀ l:List Tree,asFs l=l.map asF
 | []=>rfl
 | x::l=>by simp[asFs,ZtE l]
theorem ZEl (x:Tree):asF x=.mk 1 x.rule (x.Ab.map asF):=by cases x;rw[asF,ZtE];rfl
mutual
theorem Zr1:∀ x:Tree,fsz (asF x)=cnt x
 | .mk r k=>by rw[asF,fsz,ZtF k,cnt]
theorem ZtF:∀ l:List Tree,Aj (asFs l)=cnts l
 | []=>rfl
 | x::l=>by simp only[asFs,Aj,Zr1 x,ZtF l,cnts]
end
abbrev Zqj (n:Int):Ad:=.mk 2 n []
structure TS where
 Aa:List Rule
 frags:List (List Ad)
def TS.put (S:TS) (left:Int) (r:Nat) (right:List Int) (l:List Ad):Except TS TS :=
 if right.length=0 then .ok S else if S.Aa.length=160∨60 < Aj l+1 then .error S else .ok ⟨S.Aa++[⟨left,right⟩],S.frags++[[.mk 1 r l]]⟩
def thL {α:Type} (f:α→TS→Except TS TS):List α→TS→Except TS TS
 | [],S=>.ok S
 | t::ts,S=>match f t S with
  | .error e=>.error e
  | .ok S'=>thL f ts S'
theorem ZiT {α:Type} (f:α→TS→Except TS TS):∀ (a b:List α) (S:TS),thL f (a++b) S=match thL f a S with
  | .error e=>.error e
  | .ok S'=>thL f b S'
 | [],b,S=>rfl
 | t::a,b,S=>by
  simp only[Hv,thL];cases f t S with
  | error e=>rfl
  | ok S'=>exact ZiT f a b S'
theorem Zol {α β:Type} (f:β→TS→Except TS TS) (k:α→β):∀ (a:List α) (S:TS),thL f (a.map k) S=thL (fun x=>f (k x)) a S
 | [],S=>rfl
 | t::a,S=>by
  simp only[Hm,thL];cases f (k t) S with
  | error e=>rfl
  | ok S'=>exact Zol f k a S'
theorem ZhV {α:Type} {f g:α→TS→Except TS TS}:∀ {a:List α},(∀ x∈a,∀ S,f x S=g x S)→∀ S,thL f a S=thL g a S
 | [],_,S=>rfl
 | t::a,h,S=>by
  simp only[thL];rw[h t (by simp)];cases g t S with
  | error e=>rfl
  | ok S'=>exact ZhV (fun x hx=>h x (by simp[hx])) S'
theorem ZtG {α β:Type} (f:β→TS→Except TS TS) (k:α→List β):∀ (a:List α) (S:TS),thL f (a.flatMap k) S=thL (fun x=>thL f (k x)) a S
 | [],S=>rfl
 | t::a,S=>by
  rw[HP,ZiT];simp only[thL];cases thL f (k t) S with
  | error e=>rfl
  | ok S'=>exact ZtG f k a S'
def thR (nl:List (List Tree)) (left:Int) (r:Nat):List Int→Nat→List Int→List Ad→TS→Except TS TS
 | [],_,right,l,S=>S.put left r right l
 | s::ss,h,right,l,S=>if s < 0 then thR nl left r ss h (right++[s]) l S else match thR nl left r ss (h+1) (right++[s]) (l++[Zqj h]) S with
  | .error e=>.error e
  | .ok S'=>thL (fun t S=>thR nl left r ss h right (l++[asF t]) S) (nl.getD s.toNat []) S'
def thA (nl:List (List Tree)):Nat→List Rule→TS→Except Nat TS
 | _,[],S=>.ok S
 | i,x::rs,S=>match thR nl x.left i x.right 0 [] [] S with
  | .error _=>.error i
  | .ok S'=>thA nl (i+1) rs S'
abbrev stG (g:Ac) (v:Nat):Ac:=⟨g.vars,g.terms,v,g.Aa⟩
def nlA (g:Ac):Nat→Nat→List (List Tree)→Option (List (List Tree))
 | 0,_,acc=>some acc
 | n+1,v,acc=>if (Zaw (stG g v) []).2.code=0 then nlA g n (v+1) (acc++[(Zaw (stG g v) []).1]) else none
def nlF (g:Ac):Option (List (List Tree)):=nlA g g.vars.toNat 0 []
def Zev (g:Ac):Step×Zcf :=
 if (Zac g).code=0 then
  if cycL g=[] then
   match nlF g with
   | none=>(Ag,⟨6, -1⟩)
   | some nl=>match thA nl 0 g.Aa ⟨[],[]⟩ with
    | .error i=>(Ag,⟨6,i⟩)
    | .ok S=>(⟨⟨g.vars,g.terms,g.start,S.Aa⟩,S.frags,nl.getD (stN g) []⟩,⟨0,0⟩)
  else (Ag,⟨10, -1⟩)
 else (Ag,Zac g)
theorem ZtH {g:Ac}:∀ {n v:Nat} {acc nl:List (List Tree)},nlA g n v acc=some nl→nl.length=acc.length+n∧(∀ i,i < acc.length→nl.getD i []=acc.getD i [])∧∀ i,i < n→(Zaw (stG g (v+i)) []).2.code=0∧nl.getD (acc.length+i) []=(Zaw (stG g (v+i)) []).1
 | 0,v,acc,nl,h=>by
  rw[nlA] at h;cases h;exact⟨rfl,fun _ _=>rfl,fun i hi=>by omega⟩
 | n+1,v,acc,nl,h=>by
  rw[nlA] at h;split at h
  ·rename_i hc;obtain⟨h1,h2,h3⟩:=ZtH h;rw[Hk,HS] at h1 h3;refine⟨by omega,fun i hi=>?_,fun i hi=>?_⟩
   ·rw[h2 i (by simp;omega)];simp only[Hf];rw[GH hi]
   ·cases i with
    | zero =>
     refine⟨hc,?_⟩;have:=h2 acc.length (by simp);rw[Gx,this];simp
    | succ i =>
     obtain⟨q1,q2⟩:=h3 i (by omega);rw[show v+(i+1)=v+1+i by omega,show acc.length+(i+1)=acc.length+1+i by omega];exact⟨q1,q2⟩
  ·cases h
theorem ZgJ {g:Ac} {nl:List (List Tree)} (h:nlF g=some nl):nl.length=g.vars.toNat∧∀ v,v < g.vars.toNat→(Zaw (stG g v) []).2.code=0∧nl.getD v []=(Zaw (stG g v) []).1:=by
 obtain⟨h1,_,h3⟩:=ZtH h;simp only[HB,HE] at h1 h3;exact⟨h1,h3⟩
theorem Zqk {g:Ac} (hg:g.ok) {v:Nat} (hv:v < g.vars.toNat):(stG g v).ok :=
 { hg with start:=(by show (v:Int) < g.vars;omega),start0:=(by show 0≤(v:Int);omega) }
theorem Zyt {g:Ac} (hg:g.ok) {v:Nat} (hv:v < g.vars.toNat):cycL (stG g v)=cycL g:=by rw[Zrn (Zqk hg hv),Zrn hg];rfl
theorem ZB1 {g:Ac} (hg:g.ok) (hc:cycL g=[]):chF g []=⟨0,0⟩:=by
 unfold chF;rw[hg.fault,Hb rfl,hc];rfl
theorem Zyu {g:Ac} {w:List Int} (hch:chF g w=⟨0,0⟩) (h:¬ (Zaw g w).2.code=0):Zaw g w=([],⟨6, -1⟩):=by
 have e:Zaw g w=if (opF g w).code=0 then (if 200 < cntF g w then ([],⟨6, -1⟩) else ZdE g w (cntF g w) 0 []) else ([],opF g w):=rfl
 have ho:opF g w=if cntF g w=Zae then ⟨6, -1⟩ else ⟨0,0⟩:=by unfold opF;rw[hch,Hb rfl]
 rw[e] at h ⊢;by_cases hm:cntF g w=Zae
 ·rw[Hb hm] at ho;rw[ho,Ha (by decide)]
 ·rw[Ha hm] at ho;rw[ho,Hb rfl] at h ⊢;by_cases h2:200 < cntF g w
  ·rw[Hb h2]
  ·rw[Ha h2] at h ⊢;exact ZlB _ _ _ h
theorem Zyv {g:Ac} (hg:g.ok) (hc:cycL g=[]) {v:Nat} (hv:v < g.vars.toNat) (h:¬ (Zaw (stG g v) []).2.code=0):Zaw (stG g v) []=([],⟨6, -1⟩) :=
 Zyu (ZB1 (Zqk hg hv) (by rw[Zyt hg hv,hc])) h
def thM (nl:List (List Tree)):List Int→List Nat→Nat→List Int×List Ad
 | [],_,_=>([],[])
 | s::ss,p,h=>if s < 0 then (s::(thM nl ss p h).1,(thM nl ss p h).2) else match p with
  | []=>([],[])
  | 0::p=>(s::(thM nl ss p (h+1)).1,Zqj h::(thM nl ss p (h+1)).2)
  | (a+1)::p=>((thM nl ss p h).1,asF ((nl.getD s.toNat []).getD a (.mk 0 []))::(thM nl ss p h).2)
def tups:List Nat→List (List Nat)
 | []=>[[]]
 | c::cs=>(List.range c).flatMap fun a=>(tups cs).map (a::·)
def Za6 (nl:List (List Tree)) (syms:List Int):List Nat:=(Ab syms).map fun s=>(nl.getD s.toNat []).length+1
theorem Zfz (nl:List (List Tree)) (left:Int) (r:Nat):∀ (ss:List Int) (h:Nat) (right:List Int) (l:List Ad) (S:TS),thR nl left r ss h right l S=thL (fun p S=>S.put left r (right++(thM nl ss p h).1) (l++(thM nl ss p h).2)) (tups (Za6 nl ss)) S
 | [],h,right,l,S=>by
  simp only[thR,Za6,Ab,List.filter_nil,HF,tups,thL,thM,Ht];cases S.put left r right l <;> rfl
 | s::ss,h,right,l,S=>by
  rw[thR];by_cases hs:s < 0
  ·rw[Hb hs,Zfz nl left r ss h];have e:Za6 nl (s::ss)=Za6 nl ss:=by unfold Za6;rw[Zc2 hs]
   rw[e];refine ZhV (fun p _ S=>?_) S;simp only[thM,hs,if_true,HH,Js]
  ·rw[Ha hs];have e:Za6 nl (s::ss)=((nl.getD s.toNat []).length+1)::Za6 nl ss:=by unfold Za6;rw[ZbG hs];rfl
   rw[e,tups,List.range_succ_eq_map,HP,ZiT,Zol,Zfz nl left r ss (h+1)];have e1:thL (fun p S=>S.put left r (right++[s]++(thM nl ss p (h+1)).1) (l++[Zqj h]++(thM nl ss p (h+1)).2)) (tups (Za6 nl ss)) S=thL (fun x S=>S.put left r (right++(thM nl (s::ss) (0::x) h).1) (l++(thM nl (s::ss) (0::x) h).2)) (tups (Za6 nl ss)) S:=by
    refine ZhV (fun p _ S=>?_) S;simp only[thM,hs,if_false,HH,Js]
   rw[e1];cases thL (fun x S=>S.put left r (right++(thM nl (s::ss) (0::x) h).1) (l++(thM nl (s::ss) (0::x) h).2)) (tups (Za6 nl ss)) S with
   | error e=>rfl
   | ok S' =>
    dsimp only;rw[ZtG,Zol];have e2:∀ (ts:List Tree) (k:Nat),(nl.getD s.toNat []).drop k=ts→∀ S,thL (fun t S=>thR nl left r ss h right (l++[asF t]) S) ts S=thL (fun a S=>thL (fun p S=>S.put left r (right++(thM nl (s::ss) p h).1) (l++(thM nl (s::ss) p h).2)) ((tups (Za6 nl ss)).map ((a+1)::·)) S) (List.range' k ts.length) S:=by
     intro ts
     induction ts with
     | nil=>intro k hk S;rfl
     | cons t ts ih =>
      intro k hk S;have hkl:k < (nl.getD s.toNat []).length:=HN fun hn=>by
       rw[HL (by omega)] at hk;cases hk
      rw[Hw hkl] at hk;obtain⟨h1,h2⟩:=HY hk;rw[Hl,JE];simp only[thL];rw[Zfz nl left r ss h,Zol];have e3:thL (fun p S=>S.put left r (right++(thM nl ss p h).1) (l++[asF t]++(thM nl ss p h).2)) (tups (Za6 nl ss)) S=thL (fun x S=>S.put left r (right++(thM nl (s::ss) ((k+1)::x) h).1) (l++(thM nl (s::ss) ((k+1)::x) h).2)) (tups (Za6 nl ss)) S:=by
       refine ZhV (fun p _ S=>?_) S;have:(nl.getD s.toNat []).getD k (.mk 0 [])=t:=(by rw[Hf,Hj hkl];exact h1);simp only[thM,hs,if_false,this,HH,Js]
      rw[e3];cases thL (fun x S=>S.put left r (right++(thM nl (s::ss) ((k+1)::x) h).1) (l++(thM nl (s::ss) ((k+1)::x) h).2)) (tups (Za6 nl ss)) S with
      | error e=>rfl
      | ok S'=>exact ih (k+1) h2 S'
    have:=e2 (nl.getD s.toNat []) 0 (by rw[Gl]) S';rw[this,List.range_eq_range']
theorem Zom:∀ (cs:List Nat) (p:List Nat),p∈tups cs→p.length=cs.length∧∀ k,∀ h:k < cs.length,p.getD k 0 < cs[k]
 | [],p,h=>by
  simp only[tups,Gw] at h;subst h;exact⟨rfl,fun k hk=>by simp at hk⟩
 | c::cs,p,h=>by
  rw[tups] at h;simp only[G0,Jc,Gv] at h;obtain⟨a,ha,q,hq,rfl⟩:=h;obtain⟨h1,h2⟩:=Zom cs q hq;refine⟨by simp[h1],fun k hk=>?_⟩;cases k with
  | zero=>simpa using ha
  | succ k =>
   have:=h2 k (by simpa using hk);simp only[Jt,GQ];exact this
theorem ZBe:∀ l:List Tree,cpL (asFs l)=cnts l:=by
 have key:∀ (n:Nat) (l:List Tree),cnts l < n→cpL (asFs l)=cnts l:=by
  intro n
  induction n with
  | zero=>intro l h;omega
  | succ n ih =>
   intro l
   induction l with
   | nil=>intro _;rfl
   | cons x l ihl =>
    intro h;cases x with
    | mk r k =>
     simp only[cnts,cnt] at h;simp only[asFs,cpL,cnts,asF,cpF,cnt];have e1:=ihl (by omega);have e2:=ih k (by omega);rw[e1,e2];simp
 exact fun l=>key _ l (Gk _)
theorem ZC0 (x:Tree):cpF (asF x)=cnt x:=by
 have:=ZBe [x];simpa[asFs,cpL,cnts] using this
theorem ZtI (nl:List (List Tree)):∀ (ss:List Int) (p:List Nat) (h:Nat),cpL (thM nl ss p h).2=Aj (thM nl ss p h).2
 | [],p,h=>by simp[thM,cpL,Aj]
 | s::ss,p,h=>by
  by_cases hs:s < 0
  ·simp only[thM,hs,if_true];exact ZtI nl ss p h
  ·cases p with
   | nil=>simp[thM,hs,cpL,Aj]
   | cons a p =>
    cases a with
    | zero =>
     simp only[thM,hs,if_false,cpL,Aj];rw[ZtI nl ss p (h+1)];simp[cpF,fsz,Aj]
    | succ a =>
     simp only[thM,hs,if_false,cpL,Aj];rw[ZtI nl ss p h,ZC0,Zr1]
section
variable {P:Program} (T:TT P)
theorem Zvs {t e:TypeId} {y ye:Ty} (ht:T.rows[t]? = some y) (hel:y.elem=some e) (hte:T.rows[e]? = some ye) {ba:Option Addr} {len cap:Nat} {kh km:IntKind} (hlc:len≤cap) (w:World) :
  (Instr.sliceAt t (.slice ba len cap) none (some (.int kh len)) (some (.int km len))).run P w=.ok (.slice (if len=0 then ba else ba.map (·.add (0 * ye.size))) len len) w:=by
 obtain⟨_,ds,_,k2,_,_,_,_,k7,_⟩:=ZaH (T.at ht);obtain⟨i,_,g1,_,g3,_⟩:=ZaH (T.at hte);have hds:=k7 e hel;subst hds;have e1:(0:Int)≤(len:Int)∧(len:Int)≤(cap:Int):=by omega
 have e2:(0:Int)≤(len:Int)∧(len:Int)≤(len:Int):=by omega
 simp[Instr.sliceAt,run_underlying k2,Instr.slice,Instr.sliceBounds,Instr.sliceBound,asIntOf,sizeOf,typeInfo,g1,g3,hlc]
theorem ZC1 {M:Bars} {w:World} {t:Bool} {sz:Nat} {es:List D} {ba:Option Addr} {cap:Nat} (hr:D.Rep M w (.sl t sz es) [.slice ba es.length cap]) (hm:es.length≤maxLen) :
  D.Rep M w (.sl t sz es) [.slice (if es.length=0 then ba else ba.map (·.add (0 * sz))) es.length es.length]:=by
 simp only[D.Rep,Hz,HA,Value.slice.injEq] at hr ⊢;obtain⟨a,cp,us,⟨rfl,_,rfl⟩,q1,q2,q3,q4,q5⟩:=hr;refine⟨_,es.length,us,⟨rfl,trivial,rfl⟩,by omega,hm,q3,q4,fun hne=>?_⟩;obtain⟨b,off,rfl,g1,g2,g3⟩:=q5 hne;have:es.length≠0:=fun e=>hne (HX e)
 rw[Ha this];refine⟨b,off,by simp[Addr.add_mid],g1,g2,g3⟩
variable {n:Nat} {dr:Bool} {ops:Array Oper} {rest:List Oper} {log:List Rec} {K:Exit→Fr→Hp→Prop} {fr:Fr} {h:Hp}
variable {d:Nat} {ty:TypeId} {pos:String} {after:Array Edge} {g:Option (Nat×Bool)}
theorem Zc4 {x xh xm:Operand} {t e:Nat} {tb:Bool} {sz m:Nat} {es:List D} {y ye:Ty} (hm:es.length=m) (hdn:Nat.blt d n=true) (hg:gOk ops fr g) (hx:oev fr x=.d (.sl tb sz es)) (hh:oev fr xh=I (m:Int)) (hc:oev fr xm=I (m:Int))
  (ht:T.rows[t]? = some y) (hel:y.elem=some e) (hte:T.rows[e]? = some ye) (hsz:Nat.beq ye.size sz=true)
  (hr:dops P n dr ops rest (⟨(gIns ops g++(ZaG x (.d (.sl tb sz es))++(ZaG xh (I (m:Int))++ZaG xm (I (m:Int))))).map Prod.fst,[d],[],[]⟩::log) K ((d,.full tb sz es)::fr) h):dops P n dr ops (⟨some d,.slice t x none (some xh) (some xm),ty,pos,after,g⟩::rest) log K fr h:=by
 subst hm;refine ZaA (ins:=gIns ops g++(ZaG x (.d (.sl tb sz es))++(ZaG xh (I (es.length:Int))++ZaG xm (I (es.length:Int))))) (objs:=[]) (v:=.full tb sz es) (upd:=[]) (LStep.pure rfl hdn rfl hg _ [] _ fun G E fr' h' a w C hi' _=>?_) (Zc7 hg (fun p hp=>?_)) (by simp) hr
 ·simp only[HV] at hi';obtain⟨r,_⟩:=C.oev (ZcE hx (fun p hp=>hi' p (.inl hp))) (Zao (Zap hx rfl));obtain⟨r1,_⟩:=C.oev (ZcE hh (fun p hp=>hi' p (.inr (.inl hp)))) (Zao (Zap hh rfl));obtain⟨r2,_⟩:=C.oev (ZcE hc (fun p hp=>hi' p (.inr (.inr hp)))) (Zao (Zap hc rfl));simp only[V.Rep,D.RepV,D.Rep,Hz,HA] at r1 r2;simp only[V.Rep,D.RepV] at r;have r':=r;simp only[D.Rep,Hz,HA] at r';obtain⟨ba,cap,us,hev,q1,q2,_⟩:=r';rw[hev] at r;have hs:=HQ hsz;have hrun:=Zvs T ht hel hte (ba:=ba) (len:=es.length) (cap:=cap) (kh:=.i64) (km:=.i64) q1 w;rw[hs] at hrun;refine⟨_,?_,by simp only[V.Rep,D.RepV];exact⟨ZC1 r (by omega),_,rfl⟩,by simp[V.keys]⟩;simp only[execOp,hev,r1.1,r2.1,Option.map_none,H9,Sem.run_bind,hrun,Result.andThen_ok,Sem.run_pure]
 ·simp only[HV] at hp;rcases hp with hp|hp|hp
  ·exact ZbN hx p hp
  ·exact ZbN hh p hp
  ·exact ZbN hc p hp
end
theorem ZBf {l:List Tree} {i:Nat} (h:i < l.length):((l.take (i+1)).map asF).map (ZaN false)=((l.take i).map asF).map (ZaN false)++[Zof false (asF l[i])]:=by
 rw[HD h,Ho,Ho];simp only[Hm,HF,Zcr]
theorem ZE9 (x:Tree):Zof false (asF x)=.agg [iD 1,iD x.rule,Zah false (x.Ab.map asF)]:=by rw[ZEl];rfl
theorem Zr2 {t:Bool}:∀ (x:Tree),cnt x≤100000000→Af Tryz.prog 186 [.d (Zbz t x)] [] (.d (Zof false (asF x))) []:=by
 refine Tree.ind fun x ih hx=>?_
 rw[ZE9];refine Af.intro (n:=25) Tryz.func186 (hw:=?_);simp only[Zal];have hk:=Zdx hx;refine VA ?_;refine ZaD 3 2 900 102 3 rfl rfl rfl rfl ?_;refine Zak (X:=Nat) (fun i=>i≤x.Ab.length) (fun i=>[(12,I i),(11,I x.Ab.length),(10,.d (Zan t x.Ab)),(3,.ptr 3 0),(2,.ptr 2 0)]) (fun i=>[(2,.box 102 [.d (iD 0),.d (iD 0),.d (.raw (.slice none 0 0))]),(3,.box 102 [.d (iD 1),.d (iD x.rule),.own 900 (x.Ab.take i).length]),(900,.row 102 3 (((x.Ab.take i).map asF).map (ZaN false)))]) (fun i=>x.Ab.length - i) 0 (Hh _) ?_;intro i hi;by_cases hlt:i < x.Ab.length
 ·have e:=ZBf hlt;have hl:(((x.Ab.take i).map asF).map (ZaN false)).length=(x.Ab.take i).length:=by simp
  refine VA ?_;refine Zab [] (hA:=ih x.Ab[i] (He hlt) (ZkK hx hlt).1) (hr:=?_);refine VA ?_;exact Zad (i+1)
 ·rw[show x.Ab.take i=x.Ab from H6 (by omega)];refine Zaz 900 rfl ?_;refine VA ?_;exact fin
theorem Zon:∀ (n:Nat) {t:Bool} {l:List Ad},Aj l < n→Aj l≤100000000→Af Tryz.prog 185 [.d (Zah t l)] [] (I (Aj l)) []:=by
 intro n
 induction n with
 | zero=>intro t l h;omega
 | succ n ih =>
  intro t l hn hl;have hll:=ZbW l;refine Af.intro (n:=21) Tryz.func185 (hw:=?_);simp only[Zal];refine VA ?_;refine Zak (X:=Nat) (fun i=>i≤l.length) (fun i=>[(10,I i),(9,I l.length),(8,.d (Zah t l)),(3,I ((Aj (l.take i)+(l.length - i):Nat):Int)),(2,I 0)]) (fun _=>[]) (fun i=>l.length - i) 0 (Hh _) ?_ (hf:=⟨.of rfl,.of rfl,.of rfl,VLe.of (by simp[Aj];rfl),.of rfl,trivial⟩);intro i hi;by_cases hlt:i < l.length
  ·have e1:=Zhx hlt;have e2:=ZeU l (i+1);have e3:=Zhw l[i];have e4:=ZbW (l.drop (i+1));rw[HG] at e4;have hc:=@ih t l[i].l (by omega) (by omega);have ea:((Aj (l.take i)+(l.length - i):Nat):Int)+((Aj l[i].l:Nat):Int)=((Aj (l.take (i+1))+(l.length - (i+1)):Nat):Int):=by omega
   have hb:((Aj (l.take i)+(l.length - i):Nat):Int)+((Aj l[i].l:Nat):Int)≤100000000:=by omega
   clear e1 e2 e3 e4;generalize Aj (l.take i)+(l.length - i)=c1 at *;generalize hc2:Aj (l.take (i+1))+(l.length - (i+1))=c2 at *;generalize Aj l[i].l=c3 at *;refine VA ?_;refine Zab [] (hA:=hc) (hr:=?_);refine VA ?_;rw[ea];subst hc2;exact Zad (i+1)
  ·have e:l.take i=l:=H6 (by omega);have e2:l.length - i=0:=by omega
   rw[e,e2,Gx];refine VA ?_;exact fin
theorem ZhW {t:Bool} {l:List Ad} (h:Aj l≤100000000):Af Tryz.prog 185 [.d (Zah t l)] [] (I (Aj l)) []:=Zon _ (Gk _) h
abbrev thBx (t:Bool) (g:Ac) (nl:List (List Tree)) (n m:Nat):Ob:=.box 160 [.d (iD g.vars),.d (iD g.terms),.d (iD g.start),.d (ZaS t g.Aa),.d (.sl false 1 (nl.map (Zan false))),.d (iD g.vars),.d (iD g.terms),.d (iD g.start),.own 1001 n,.own 1002 m,.d (.raw (.slice none 0 0))]
abbrev thHr (t:Bool) (g:Ac) (nl:List (List Tree)) (R F:List D):Hp:=[(1000,thBx t g nl R.length F.length),(1001,.row 68 2 R),(1002,.row 75 1 F)]
abbrev thH (t:Bool) (g:Ac) (nl:List (List Tree)) (S:TS):Hp:=thHr t g nl (S.Aa.map (Za3 false)) (S.frags.map (Zah false))
def Zql (r:Nat):Value:=.iface 161 (.agg #[.int .i64 6,.int .i64 (r:Int)])
def DoesTh (t:Bool) (g:Ac) (nl:List (List Tree)) (r:Nat) (args:List V) (S:TS):Except TS TS→Prop
 | .ok S'=>Af Tryz.prog 122 args (thH t g nl S) (.tup []) (thH t g nl S')
 | .error e=>APan Tryz.prog 122 args (thH t g nl S) (Zql r) (thH t g nl e)
structure TS.Good (S:TS):Prop where
 Aa:S.Aa.length≤160
 frags:S.frags.length=S.Aa.length
def NlOk (nl:List (List Tree)):Prop:=nl.length≤64∧(∀ l∈nl,l.length≤200)∧∀ l∈nl,∀ x∈l,cnt x≤400∧NbF 1000000000 (asF x)
theorem TS.put_good {S S':TS} {left:Int} {r:Nat} {right:List Int} {l:List Ad} (h:S.put left r right l=.ok S') (g:S.Good):S'.Good:=by
 unfold TS.put at h;split at h
 ·cases h;exact g
 ·split at h
  ·cases h
  ·rename_i h1 h2;cases h;exact⟨by have:=g.Aa;simp only[Hk,HS];omega,by simp[g.frags]⟩
theorem ZtJ {α:Type} {f:α→TS→Except TS TS}:∀ {ts:List α} {S S':TS},(∀ x∈ts,∀ S S',f x S=.ok S'→S.Good→S'.Good)→thL f ts S=.ok S'→S.Good→S'.Good
 | [],S,S',_,h,g=>by cases h;exact g
 | t::ts,S,S',hf,h,g=>by
  rw[thL] at h;cases hc:f t S with
  | error e=>rw[hc] at h;cases h
  | ok S1=>rw[hc] at h;exact ZtJ (fun x hx=>hf x (by simp[hx])) h (hf t (by simp) S S1 hc g)
theorem Zoo (nl:List (List Tree)) (left:Int) (r:Nat) (ss:List Int) (h:Nat) (right:List Int) (l:List Ad) {S S':TS} (e:thR nl left r ss h right l S=.ok S') (g:S.Good):S'.Good:=by
 rw[Zfz] at e;exact ZtJ (fun p _ S S' h g=>TS.put_good h g) e g
theorem Zop {B:Int} {x:Ad}:∀ {l:List Ad},NbL B l→NbF B x→NbL B (l++[x])
 | [],_,hx=>⟨hx,trivial⟩
 | y::l,h,hx=>⟨h.1,Zop h.2 hx⟩
section
variable {t:Bool} {g:Ac} {nl:List (List Tree)}
theorem ZlV {r:Nat} {right:List Int} {l:List Ad} {h:Nat} {S:TS} (hg:g.ok) (hr:r < g.Aa.length) (hS:S.Good) (hrl:right.length≤10) (hl:Aj l≤5000) (h0:¬ right.length=0) (hp:S.Aa.length=160∨60 < Aj l+1) :
  APan Tryz.prog 122 [.ptr 1000 0,I (r:Nat),I (g.Aa[r].right.length:Nat),I (h:Nat),.d (ints false right),.d (Zah false l)] (thH t g nl S) (Zql r) (thH t g nl S):=by
 have hrr:=hg.right _ (He hr);have hrules:=hg.Aa;have hpt:=ZhW (t:=false) (l:=l) (by omega);have hf1:=hS.Aa;have hf2:=hS.frags;simp only[thH,thHr,thBx];refine APan.intro (n:=156) Tryz.func122 rfl rfl (by simp) (by rfl) rfl ?_;simp only[Zal];by_cases h1:S.Aa.length=160
 ·refine VA ?_;refine VB ?_;refine VA ?_;refine Zse rfl Zag rfl rfl rfl Tryz.underlying161 rfl ?_;refine Zsf [(1000,some (thBx t g nl (S.Aa.map (Za3 false)).length (S.frags.map (Zah false)).length)),(1001,some (.row 68 2 (S.Aa.map (Za3 false)))),(1002,some (.row 75 1 (S.frags.map (Zah false))))] 999 Zag rfl (fun p hp=>by rcases List.mem_cons.1 hp with rfl|hp;exact rfl;rcases List.mem_cons.1 hp with rfl|hp;exact rfl;rw[List.mem_singleton.1 hp];rfl) (fun fr' h' ho=>⟨rfl,⟨Ap.of (ho _ HT),Ap.of (ho _ (HK _ HT)),Ap.of (ho _ (HK _ (HK _ (List.mem_singleton.2 rfl)))),trivial⟩,rfl⟩) ?_;refine ZcK (Zb2 ?_);exact ZqK (Nev.obj 999 rfl)
 ·have h2:60 < Aj l+1:=by omega
  refine VA ?_;refine Zab [] (hA:=hpt) (hr:=?_);refine VA ?_;refine Zse rfl Zag rfl rfl rfl Tryz.underlying161 rfl ?_;refine Zsf [(1000,some (thBx t g nl (S.Aa.map (Za3 false)).length (S.frags.map (Zah false)).length)),(1001,some (.row 68 2 (S.Aa.map (Za3 false)))),(1002,some (.row 75 1 (S.frags.map (Zah false))))] 999 Zag rfl (fun p hp=>by rcases List.mem_cons.1 hp with rfl|hp;exact rfl;rcases List.mem_cons.1 hp with rfl|hp;exact rfl;rw[List.mem_singleton.1 hp];rfl) (fun fr' h' ho=>⟨rfl,⟨Ap.of (ho _ HT),Ap.of (ho _ (HK _ HT)),Ap.of (ho _ (HK _ (HK _ (List.mem_singleton.2 rfl)))),trivial⟩,rfl⟩) ?_;refine ZcK (Zb2 ?_);exact ZqK (Nev.obj 999 rfl)
theorem Zvt {r:Nat} {right:List Int} {l:List Ad} {h:Nat} {S:TS} (hg:g.ok) (hr:r < g.Aa.length) (hS:S.Good) (hrl:right.length≤10) (hl:Aj l≤5000) (hnb:NbL 1000000000 l) :
  DoesTh t g nl r [.ptr 1000 0,I (r:Nat),I (g.Aa[r].right.length:Nat),I (h:Nat),.d (ints false right),.d (Zah false l)] S (S.put g.Aa[r].left r right l):=by
 have hrr:=hg.right _ (He hr);have hrules:=hg.Aa;have hpt:=ZhW (t:=false) (l:=l) (by omega);have hf1:=hS.Aa;have hf2:=hS.frags;unfold TS.put;by_cases h0:right.length=0
 ·rw[Hb h0];show Af _ _ _ _ _ _;simp only[thH,thHr,thBx];refine Af.intro (n:=156) Tryz.func122 (hw:=?_);simp only[Zal];refine VA ?_;exact fin
 rw[Ha h0];by_cases hp:S.Aa.length=160∨60 < Aj l+1
 ·rw[Hb hp];exact ZlV hg hr hS hrl hl h0 hp
 rw[Ha hp];show Af _ _ _ _ _ _;have h1:¬ S.Aa.length=160:=fun e=>hp (.inl e)
 have h2:¬ 60 < Aj l+1:=fun e=>hp (.inr e)
 have hcl:=ZcA (t:=false) (xs:=right) (by omega);have how:=ZnW (t:=false) (l:=[.mk 1 r l]) (by simp only[Aj,fsz];omega) (by refine⟨?_,trivial⟩;exact⟨by omega,hnb⟩);have e1:(S.Aa++[(⟨g.Aa[r].left,right⟩:Rule)]).map (Za3 false)=S.Aa.map (Za3 false)++[D.agg [iD g.Aa[r].left,ints false right]]:=by simp[Za3]
 have e2:(S.frags++[[Ad.mk 1 r l]]).map (Zah false)=S.frags.map (Zah false)++[Zah false [.mk 1 r l]]:=by simp
 have hfr:Zah false [Ad.mk 1 r l]=.sl false 3 [.agg [iD 1,iD r,Zah false l]]:=by simp[ZaN,Zcq]
 rw[hfr] at how e2;simp only[thH,thHr,thBx,e1,e2];refine Af.intro (n:=156) Tryz.func122 (hw:=?_);simp only[Zal];refine VA ?_;refine Zab [] (hA:=hpt) (hr:=?_);refine VA ?_;refine Zab [(5,905)] (hA:=hcl) (hr:=?_);refine VA ?_;refine Zab [] (hA:=how) (hr:=?_);refine VA ?_;exact fin
end
abbrev ZC2:D:=.raw (.slice none 0 0)
theorem APan.leT {P:Program} {f:FuncId} {args args':List V} {h h':Hp} {u:Value} (hA:APan P f args' h u h') (hl:VLes args args'):APan P f args h u h' :=
 ⟨hA.ok,fun E w us o H hr hk ho hs=>hA.run E w us o H (hl.reps hr) (by rw[←hl.keys];exact hk) ho hs⟩
section
variable {t:Bool} {g:Ac} {nl:List (List Tree)}
theorem DoesTh.le {r:Nat} {args args':List V} {S:TS} {R:Except TS TS} (hA:DoesTh t g nl r args' S R) (hl:VLes args args'):DoesTh t g nl r args S R:=by
 cases R with
 | error e=>exact APan.leT (show APan _ _ _ _ _ _ from hA) hl
 | ok p=>exact Af.le (show Af _ _ _ _ _ _ from hA) hl
theorem Zyw (l:List Ad) (h:Nat):DLe (.sl false 3 (l.map (ZaN false)++[.agg [iD 2,iD h,ZC2]])) (Zah false (l++[Zqj h])) :=
 DLe.sl (DLes.snoc (y:=.agg [iD 2,iD h,.sl false 3 []]) (by simp[ZaN,ZeD]) (.agg (.cons (.refl _) (.cons (.refl _) (.cons (.nil _ _) .nil)))))
theorem ZBg (l:List Ad) (h:Nat):VLe (.d (.sl false 3 (l.map (ZaN false)++[.agg [iD 2,iD h,ZC2]]))) (.d (Zah false (l++[Zqj h]))) :=
 VLe.d (Zyw l h) (fun M w u k=>by simp only[D.RepV] at k ⊢;exact (Zyw l h).rep M w [u] k)
theorem Zvu (hg:g.ok) (hn:NlOk nl) (hnv:nl.length=g.vars.toNat) {r:Nat} (hr:r < g.Aa.length):∀ (n at_ h:Nat) (right:List Int) (l:List Ad) (S:TS),g.Aa[r].right.length - at_ < n→at_≤g.Aa[r].right.length→right.length+(g.Aa[r].right.length - at_)≤10→h≤at_→Aj l+401 * (g.Aa[r].right.length - at_)≤5000→NbL 1000000000 l→S.Good →
  DoesTh t g nl r [.ptr 1000 0,I (r:Nat),I (at_:Nat),I (h:Nat),.d (ints false right),.d (Zah false l)] S (thR nl g.Aa[r].left r (g.Aa[r].right.drop at_) h right l S):=by
 intro n
 induction n with
 | zero=>intro at_ h right l S hn';omega
 | succ n ih =>
 intro at_ h right l S hn' hat hrl hh hl hnb hS;by_cases hal:at_ < g.Aa[r].right.length
 rotate_left
 ·obtain rfl:at_=g.Aa[r].right.length:=by omega
  rw[HL (Hg _),thR];exact Zvt hg hr hS (by omega) (by omega) hnb
 have hrr:=hg.right _ (He hr);have hhi:=hg.hi _ (He hr) _ (He hal);have hrules:=hg.Aa;have hvars:=hg.vars;have hf1:=hS.Aa;have hf2:=hS.frags;have hll:=ZbW l;have hne:¬ (at_:Int)=g.Aa[r].right.length:=by omega
 rw[Hw hal,thR];have er:ints false (right++[g.Aa[r].right[at_]])=.sl false 1 (right.map iD++[iD g.Aa[r].right[at_]]):=by simp[ints]
 by_cases hs:g.Aa[r].right[at_] < 0
 ·rw[Hb hs];have hi:=ih (at_+1) h (right++[g.Aa[r].right[at_]]) l S (by omega) (by omega) (by simp only[Hk,HS];omega) (by omega) (by omega) hnb hS;rw[er,show ((at_+1:Nat):Int)=(at_:Int)+1 by omega] at hi;cases hc:thR nl g.Aa[r].left r (g.Aa[r].right.drop (at_+1)) h (right++[g.Aa[r].right[at_]]) l S with
  | error e =>
   rw[hc] at hi;replace hi:APan _ _ _ _ _ _:=hi;clear ih;show APan _ _ _ _ _ _;simp only[thH,thHr,thBx] at *;refine APan.intro (n:=156) Tryz.func122 rfl rfl (by simp) (by rfl) rfl ?_;simp only[Zal];refine VA ?_;refine Zc4 TY (by simp) rfl Zag rfl rfl rfl rfl rfl rfl rfl ?_;refine VA ?_;refine ZcL TY rfl rfl Zag rfl rfl rfl (At.own rfl rfl) (.inr ⟨⟨_,rfl⟩,.inr (by simp)⟩) rfl rfl rfl rfl rfl rfl rfl rfl (by simp;omega) (by simp;omega) ?_;refine VA ?_;refine Zet [] [] [] (hpn:=?_) (hA:=hi);exact (fun fr' h' _ _=>⟨rfl,⟨Ap.of rfl,Ap.of rfl,Ap.of rfl,trivial⟩,rfl⟩)
  | ok S' =>
   rw[hc] at hi;replace hi:Af _ _ _ _ _ _:=hi;clear ih;show Af _ _ _ _ _ _;simp only[thH,thHr,thBx] at *;refine Af.intro (n:=156) Tryz.func122 (hw:=?_);simp only[Zal];refine VA ?_;refine Zc4 TY (by simp) rfl Zag rfl rfl rfl rfl rfl rfl rfl ?_;refine VA ?_;refine ZcL TY rfl rfl Zag rfl rfl rfl (At.own rfl rfl) (.inr ⟨⟨_,rfl⟩,.inr (by simp)⟩) rfl rfl rfl rfl rfl rfl rfl rfl (by simp;omega) (by simp;omega) ?_;refine VA ?_;refine Zab [] (hA:=hi) (hr:=?_);refine VA ?_;exact fin
 rw[Ha hs];obtain⟨sn,hsn⟩:∃ sn:Nat,g.Aa[r].right[at_]=(sn:Int):=⟨g.Aa[r].right[at_].toNat,by omega⟩
 have hsl:sn < nl.length:=by omega
 have hs0:0≤g.Aa[r].right[at_]:=by omega
 have hgd:nl.getD g.Aa[r].right[at_].toNat []=nl[sn]:=by rw[hsn,Hn,Hf,Hj hsl];rfl
 rw[hgd];have hts:=hn.2.2 _ (He hsl);have htl:=hn.2.1 _ (He hsl);have hnl64:=hn.1;have hi1:=ih (at_+1) (h+1) (right++[g.Aa[r].right[at_]]) (l++[Zqj h]) S (by omega) (by omega) (by simp only[Hk,HS];omega) (by omega) (by rw[Zbw];simp only[Aj,fsz];omega) (Zop hnb (by refine⟨⟨by omega,by omega⟩,trivial⟩)) hS;replace hi1:=hi1.le (args:=[.ptr 1000 0,I (r:Nat),I ((at_+1:Nat):Int),I ((h+1:Nat):Int),.d (ints false (right++[g.Aa[r].right[at_]])),.d (.sl false 3 (l.map (ZaN false)++[.agg [iD 2,iD h,ZC2]]))]) ⟨.refl _,.refl _,.refl _,.refl _,.refl _,ZBg l h,trivial⟩;rw[er,show ((at_+1:Nat):Int)=(at_:Int)+1 by omega,show ((h+1:Nat):Int)=(h:Int)+1 by omega] at hi1;cases hc1:thR nl g.Aa[r].left r (g.Aa[r].right.drop (at_+1)) (h+1) (right++[g.Aa[r].right[at_]]) (l++[Zqj h]) S with
 | error e =>
  rw[hc1] at hi1;replace hi1:APan _ _ _ _ _ _:=hi1;clear ih;show APan _ _ _ _ _ _;simp only[thH,thHr,thBx] at *;refine APan.intro (n:=156) Tryz.func122 rfl rfl (by simp) (by rfl) rfl ?_;simp only[Zal];refine VA ?_;refine Zc4 TY (by simp) rfl Zag rfl rfl rfl rfl rfl rfl rfl ?_;refine VA ?_;refine ZcL TY rfl rfl Zag rfl rfl rfl (At.own rfl rfl) (.inr ⟨⟨_,rfl⟩,.inr (by simp)⟩) rfl rfl rfl rfl rfl rfl rfl rfl (by simp;omega) (by simp;omega) ?_;refine VA ?_;refine Zc4 TY (by simp) rfl Zag rfl rfl rfl rfl rfl rfl rfl ?_;refine VA ?_;refine ZcL TY rfl rfl Zag rfl rfl rfl (At.own rfl rfl) (.inr ⟨⟨_,rfl⟩,.inr (by simp)⟩) rfl rfl rfl rfl rfl rfl rfl rfl (by simp;omega) (by simp;omega) ?_;refine VA ?_;refine Zet [] [] [] (hpn:=?_) (hA:=hi1);exact (fun fr' h' _ _=>⟨rfl,⟨Ap.of rfl,Ap.of rfl,Ap.of rfl,trivial⟩,rfl⟩)
 | ok S1 =>
 rw[hc1] at hi1;replace hi1:Af _ _ _ _ _ _:=hi1;have hS1:=Zoo _ _ _ _ _ _ _ hc1 hS;have hi2:=fun (x:Tree) (hx:x∈nl[sn]) (S:TS) (hS:S.Good)=>by
  have h1:=ih (at_+1) h right (l++[asF x]) S (by omega) (by omega) (by omega) (by omega) (by rw[Zbw];simp only[Aj,Zr1];have:=(hts x hx).1;omega) (Zop hnb (hts x hx).2) hS;rw[show Zah false (l++[asF x])=.sl false 3 (l.map (ZaN false)++[Zof false (asF x)]) by simp[Zcr],show ((at_+1:Nat):Int)=(at_:Int)+1 by omega] at h1;exact h1
 have hgl:=fun (x:Tree) (S S':TS) (h:thR nl g.Aa[r].left r (g.Aa[r].right.drop (at_+1)) h right (l++[asF x]) S=.ok S') (q:S.Good)=>Zoo _ _ _ _ _ _ _ h q
 dsimp only;clear ih hc1;have hal2:=fun (x:Tree) (hx:x∈nl[sn])=>Zr2 (t:=false) x (by have:=(hts x hx).1;omega)
 clear hts;cases hres:thL (fun t S=>thR nl g.Aa[r].left r (g.Aa[r].right.drop (at_+1)) h right (l++[asF t]) S) nl[sn] S1 with
 | error e =>
  show APan _ _ _ _ _ _;simp only[thH,thHr,thBx] at hi1 ⊢;refine APan.intro (n:=156) Tryz.func122 rfl rfl (by simp) (by rfl) rfl ?_;simp only[Zal];refine VA ?_;refine Zc4 TY (by simp) rfl Zag rfl rfl rfl rfl rfl rfl rfl ?_;refine VA ?_;refine ZcL TY rfl rfl Zag rfl rfl rfl (At.own rfl rfl) (.inr ⟨⟨_,rfl⟩,.inr (by simp)⟩) rfl rfl rfl rfl rfl rfl rfl rfl (by simp;omega) (by simp;omega) ?_;refine VA ?_;refine Zc4 TY (by simp) rfl Zag rfl rfl rfl rfl rfl rfl rfl ?_;refine VA ?_;refine ZcL TY rfl rfl Zag rfl rfl rfl (At.own rfl rfl) (.inr ⟨⟨_,rfl⟩,.inr (by simp)⟩) rfl rfl rfl rfl rfl rfl rfl rfl (by simp;omega) (by simp;omega) ?_;refine VA ?_;refine Zab [] (hA:=hi1) (hr:=?_);refine VA ?_;rw[hsn];refine VA ?_;generalize nl[sn]=ts at *;refine Zak (X:=Nat×TS) (fun y=>y.1≤ts.length∧y.2.Good∧thL (fun t S=>thR nl g.Aa[r].left r (g.Aa[r].right.drop (at_+1)) h right (l++[asF t]) S) (ts.drop y.1) y.2=.error e)
   (fun y=>[(134,I y.1),(133,I ts.length),(132,.d (Zan false ts)),(0,.ptr 1000 0),(1,I r),(2,I at_),(3,I h),(4,.d (ints false right)),(5,.d (Zah false l))])
   (fun y=>thH t g nl y.2) (fun y=>ts.length - y.1) (0,S1) ⟨Hh _,hS1,hres⟩ ?_
  rintro⟨i,S3⟩ ⟨j1,j2,j3⟩;dsimp only at j1 j2 j3 ⊢;by_cases hil:i < ts.length
  rotate_left
  ·rw[show ts.drop i=[] from HL (by omega),thL] at j3;cases j3
  rw[Hw hil,thL] at j3;have hx:=hi2 ts[i] (He hil) S3 j2;have hax:=hal2 ts[i] (He hil);have hgx:=hgl ts[i] S3;clear hi1;cases hc2:thR nl g.Aa[r].left r (g.Aa[r].right.drop (at_+1)) h right (l++[asF ts[i]]) S3 with
  | error e2 =>
   rw[hc2] at j3 hx;obtain rfl:e2=e:=by injection j3
   replace hx:APan _ _ _ _ _ _:=hx;clear hi2 hal2 hgl hgx;simp only[thH,thHr,thBx] at hx ⊢;refine VA ?_;refine Zc4 TY (by simp) rfl Zag rfl rfl rfl rfl rfl rfl rfl ?_;refine VA ?_;refine Zab [] (hA:=hax) (hr:=?_);refine VA ?_;refine ZcL TY rfl rfl Zag rfl rfl rfl (At.own rfl rfl) (.inr ⟨⟨_,rfl⟩,.inr (by simp)⟩) rfl rfl rfl rfl rfl rfl rfl rfl (by simp;omega) (by simp;omega) ?_;refine VA ?_;refine Zet [] [] [] (hpn:=?_) (hA:=hx);exact (fun fr' h' _ _=>⟨rfl,⟨Ap.of rfl,Ap.of rfl,Ap.of rfl,trivial⟩,rfl⟩)
  | ok S4 =>
   rw[hc2] at j3 hx;replace hx:Af _ _ _ _ _ _:=hx;have hS4:=hgx S4 hc2 j2;clear hi2 hal2 hgl hgx;simp only[thH,thHr,thBx] at hx ⊢;refine VA ?_;refine Zc4 TY (by simp) rfl Zag rfl rfl rfl rfl rfl rfl rfl ?_;refine VA ?_;refine Zab [] (hA:=hax) (hr:=?_);refine VA ?_;refine ZcL TY rfl rfl Zag rfl rfl rfl (At.own rfl rfl) (.inr ⟨⟨_,rfl⟩,.inr (by simp)⟩) rfl rfl rfl rfl rfl rfl rfl rfl (by simp;omega) (by simp;omega) ?_;refine VA ?_;refine Zab [] (hA:=hx) (hr:=?_);refine VA ?_;exact Zad (i+1,S4) (a:=⟨hil,hS4,j3⟩) (b:=by dsimp only;omega)
 | ok S2 =>
  show Af _ _ _ _ _ _;simp only[thH,thHr,thBx] at hi1 ⊢;refine Af.intro (n:=156) Tryz.func122 (hw:=?_);simp only[Zal];refine VA ?_;refine Zc4 TY (by simp) rfl Zag rfl rfl rfl rfl rfl rfl rfl ?_;refine VA ?_;refine ZcL TY rfl rfl Zag rfl rfl rfl (At.own rfl rfl) (.inr ⟨⟨_,rfl⟩,.inr (by simp)⟩) rfl rfl rfl rfl rfl rfl rfl rfl (by simp;omega) (by simp;omega) ?_;refine VA ?_;refine Zc4 TY (by simp) rfl Zag rfl rfl rfl rfl rfl rfl rfl ?_;refine VA ?_;refine ZcL TY rfl rfl Zag rfl rfl rfl (At.own rfl rfl) (.inr ⟨⟨_,rfl⟩,.inr (by simp)⟩) rfl rfl rfl rfl rfl rfl rfl rfl (by simp;omega) (by simp;omega) ?_;refine VA ?_;refine Zab [] (hA:=hi1) (hr:=?_);refine VA ?_;rw[hsn];refine VA ?_;generalize nl[sn]=ts at *;refine Zak (X:=Nat×TS) (fun y=>y.1≤ts.length∧y.2.Good∧thL (fun t S=>thR nl g.Aa[r].left r (g.Aa[r].right.drop (at_+1)) h right (l++[asF t]) S) (ts.drop y.1) y.2=.ok S2)
   (fun y=>[(134,I y.1),(133,I ts.length),(132,.d (Zan false ts)),(0,.ptr 1000 0),(1,I r),(2,I at_),(3,I h),(4,.d (ints false right)),(5,.d (Zah false l))])
   (fun y=>thH t g nl y.2) (fun y=>ts.length - y.1) (0,S1) ⟨Hh _,hS1,hres⟩ ?_
  rintro⟨i,S3⟩ ⟨j1,j2,j3⟩;dsimp only at j1 j2 j3 ⊢;by_cases hil:i < ts.length
  rotate_left
  ·rw[show ts.drop i=[] from HL (by omega),thL] at j3;cases j3;simp only[thH,thHr,thBx] at *;refine VA ?_;exact fin
  rw[Hw hil,thL] at j3;have hx:=hi2 ts[i] (He hil) S3 j2;have hax:=hal2 ts[i] (He hil);have hgx:=hgl ts[i] S3;clear hi1;cases hc2:thR nl g.Aa[r].left r (g.Aa[r].right.drop (at_+1)) h right (l++[asF ts[i]]) S3 with
  | error e2 =>
   rw[hc2] at j3;cases j3
  | ok S4 =>
   rw[hc2] at j3 hx;replace hx:Af _ _ _ _ _ _:=hx;have hS4:=hgx S4 hc2 j2;clear hi2 hal2 hgl hgx;simp only[thH,thHr,thBx] at hx ⊢;refine VA ?_;refine Zc4 TY (by simp) rfl Zag rfl rfl rfl rfl rfl rfl rfl ?_;refine VA ?_;refine Zab [] (hA:=hax) (hr:=?_);refine VA ?_;refine ZcL TY rfl rfl Zag rfl rfl rfl (At.own rfl rfl) (.inr ⟨⟨_,rfl⟩,.inr (by simp)⟩) rfl rfl rfl rfl rfl rfl rfl rfl (by simp;omega) (by simp;omega) ?_;refine VA ?_;refine Zab [] (hA:=hx) (hr:=?_);refine VA ?_;exact Zad (i+1,S4) (a:=⟨hil,hS4,j3⟩) (b:=by dsimp only;omega)
end
end Go.Proofs.YtbpmepgnjanhnaaGreat
