import Derived.Test.YtbpmepgnjanhnaaGreatQTrA
import Derived.Test.YtbpmepgnjanhnaaGreatQSaP
import Derived.Test.YtbpmepgnjanhnaaGreatQP1
import Derived.Test.YtbpmepgnjanhnaaGreatS5
import Derived.Test.YtbpmepgnjanhnaaGreatQTreeA
import Derived.Test.YtbpmepgnjanhnaaGreatQS6
import Derived.Test.YtbpmepgnjanhnaaGreatQTurnR
import Derived.Test.YtbpmepgnjanhnaaGreatQGramC
set_option linter.unusedVariables false
set_option linter.unusedSimpArgs false
set_option linter.unusedSectionVars false
namespace Go.Proofs.YtbpmepgnjanhnaaGreat
open Go.RowKit
set_option maxRecDepth 100000
theorem ZeA (g:Gram):∀ (rs:List Rule) (i:Nat),(∀ r∈rs,r.right.length≤10)→∀ l∈Zbh g rs i,fszs l≤11
 | [],_,_,l,h=>by simp[Zbh] at h
 | r::rs,i,hr,l,h=>by
  rw[Zbh] at h
  have hk:=Za3 r.right
  have h10:=hr r (by simp)
  split at h
  ·rcases List.mem_cons.1 h with rfl|h
   ·rw[ZmO];omega
   ·exact ZeA g rs (i+1) (fun r h=>hr r (by simp[h])) l h
  ·exact ZeA g rs (i+1) (fun r h=>hr r (by simp[h])) l h
theorem ZtM (g:Gram):(Zf5 g).1.fit:=by
 by_cases h:(Zac g).code=0
 ·rw[Zf5,if_pos h]
  have hg:=Za1 h
  have hk:=ZjZ hg
  have hl:(Zbh g g.rules 0).length≤160:=by rw[tLen];exact hk.rules
  exact⟨hk.fit,(by show (Zbh g g.rules 0).length≤_;omega),fun l hm=>Nat.le_trans (ZeA g g.rules 0 hg.right l hm) (by decide),by simp[ZbH,cnts]⟩
 ·rw[Zf5,if_neg h];exact Zez
theorem Zq8 {g:Gram} (h:(Zf5 g).2.code=0):Zar g (Zf5 g).1=⟨0,0⟩:=by
 by_cases h0:(Zac g).code=0
 ·rw[Zf5,if_pos h0];exact Ztw (Za1 h0)
 ·rw[Zf5,if_neg h0] at h;exact absurd h h0
mutual
def asF:Tree→Frag
 | .mk r k=>.mk 1 r (asFs k)
def asFs:List Tree→List Frag
 | []=>[]
 | x::l=>asF x::asFs l
end
theorem ZpP:∀ l:List Tree,asFs l=l.map asF
 | []=>rfl
 | x::l=>by simp[asFs,ZpP l]
theorem Zyu (x:Tree):asF x=.mk 1 x.rule (x.kids.map asF):=by cases x;rw[asF,ZpP];rfl
mutual
theorem Zoi:∀ x:Tree,fsz (asF x)=cnt x
 | .mk r k=>by rw[asF,fsz,ZpQ k,cnt]
theorem ZpQ:∀ l:List Tree,fszs (asFs l)=cnts l
 | []=>rfl
 | x::l=>by simp only[asFs,fszs,Zoi x,ZpQ l,cnts]
end
abbrev ZmX (n:Int):Frag:=.mk 2 n []
structure TS where
 rules:List Rule
 frags:List (List Frag)
def TS.put (S:TS) (left:Int) (r:Nat) (right:List Int) (l:List Frag):Except TS TS :=
 if right.length=0 then .ok S else if S.rules.length=160∨60 < fszs l+1 then .error S else .ok ⟨S.rules++[⟨left,right⟩],S.frags++[[.mk 1 r l]]⟩
def thL {α:Type} (f:α→TS→Except TS TS):List α→TS→Except TS TS
 | [],S=>.ok S
 | t::ts,S=>match f t S with
  | .error e=>.error e
  | .ok S'=>thL f ts S'
theorem ZgQ {α:Type} (f:α→TS→Except TS TS):∀ (a b:List α) (S:TS),thL f (a++b) S=match thL f a S with
  | .error e=>.error e
  | .ok S'=>thL f b S'
 | [],b,S=>rfl
 | t::a,b,S=>by
  simp only[List.cons_append,thL]
  cases f t S with
  | error e=>rfl
  | ok S'=>exact ZgQ f a b S'
theorem Zlb {α β:Type} (f:β→TS→Except TS TS) (k:α→β):∀ (a:List α) (S:TS),thL f (a.map k) S=thL (fun x=>f (k x)) a S
 | [],S=>rfl
 | t::a,S=>by
  simp only[List.map_cons,thL]
  cases f (k t) S with
  | error e=>rfl
  | ok S'=>exact Zlb f k a S'
theorem Zf8 {α:Type} {f g:α→TS→Except TS TS}:∀ {a:List α},(∀ x∈a,∀ S,f x S=g x S)→∀ S,thL f a S=thL g a S
 | [],_,S=>rfl
 | t::a,h,S=>by
  simp only[thL]
  rw[h t (by simp)]
  cases g t S with
  | error e=>rfl
  | ok S'=>exact Zf8 (fun x hx=>h x (by simp[hx])) S'
theorem ZpR {α β:Type} (f:β→TS→Except TS TS) (k:α→List β):∀ (a:List α) (S:TS),thL f (a.flatMap k) S=thL (fun x=>thL f (k x)) a S
 | [],S=>rfl
 | t::a,S=>by
  rw[List.flatMap_cons,ZgQ]
  simp only[thL]
  cases thL f (k t) S with
  | error e=>rfl
  | ok S'=>exact ZpR f k a S'
def thR (nl:List (List Tree)) (left:Int) (r:Nat):List Int→Nat→List Int→List Frag→TS→Except TS TS
 | [],_,right,l,S=>S.put left r right l
 | s::ss,h,right,l,S=>if s < 0 then thR nl left r ss h (right++[s]) l S else match thR nl left r ss (h+1) (right++[s]) (l++[ZmX h]) S with
  | .error e=>.error e
  | .ok S'=>thL (fun t S=>thR nl left r ss h right (l++[asF t]) S) (nl.getD s.toNat []) S'
def thA (nl:List (List Tree)):Nat→List Rule→TS→Except Nat TS
 | _,[],S=>.ok S
 | i,x::rs,S=>match thR nl x.left i x.right 0 [] [] S with
  | .error _=>.error i
  | .ok S'=>thA nl (i+1) rs S'
abbrev stG (g:Gram) (v:Nat):Gram:=⟨g.vars,g.terms,v,g.rules⟩
def nlA (g:Gram):Nat→Nat→List (List Tree)→Option (List (List Tree))
 | 0,_,acc=>some acc
 | n+1,v,acc=>if (ZaK (stG g v) []).2.code=0 then nlA g n (v+1) (acc++[(ZaK (stG g v) []).1]) else none
def nlF (g:Gram):Option (List (List Tree)):=nlA g g.vars.toNat 0 []
def ZdR (g:Gram):Step×Fault :=
 if (Zac g).code=0 then
  if cycL g=[] then
   match nlF g with
   | none=>(zeroStep,⟨6, -1⟩)
   | some nl=>match thA nl 0 g.rules ⟨[],[]⟩ with
    | .error i=>(zeroStep,⟨6,i⟩)
    | .ok S=>(⟨⟨g.vars,g.terms,g.start,S.rules⟩,S.frags,nl.getD (stN g) []⟩,⟨0,0⟩)
  else (zeroStep,⟨10, -1⟩)
 else (zeroStep,Zac g)
theorem ZpS {g:Gram}:∀ {n v:Nat} {acc nl:List (List Tree)},nlA g n v acc=some nl→nl.length=acc.length+n∧(∀ i,i < acc.length→nl.getD i []=acc.getD i [])∧∀ i,i < n→(ZaK (stG g (v+i)) []).2.code=0∧nl.getD (acc.length+i) []=(ZaK (stG g (v+i)) []).1
 | 0,v,acc,nl,h=>by
  rw[nlA] at h;cases h
  exact⟨rfl,fun _ _=>rfl,fun i hi=>by omega⟩
 | n+1,v,acc,nl,h=>by
  rw[nlA] at h
  split at h
  ·rename_i hc
   obtain⟨h1,h2,h3⟩:=ZpS h
   rw[List.length_append,List.length_singleton] at h1 h3
   refine⟨by omega,fun i hi=>?_,fun i hi=>?_⟩
   ·rw[h2 i (by simp;omega)]
    simp only[List.getD_eq_getElem?_getD]
    rw[List.getElem?_append_left hi]
   ·cases i with
    | zero =>
     refine⟨hc,?_⟩
     have:=h2 acc.length (by simp)
     rw[Nat.add_zero,this]
     simp
    | succ i =>
     obtain⟨q1,q2⟩:=h3 i (by omega)
     rw[show v+(i+1)=v+1+i by omega,show acc.length+(i+1)=acc.length+1+i by omega]
     exact⟨q1,q2⟩
  ·cases h
theorem ZmY {g:Gram} {nl:List (List Tree)} (h:nlF g=some nl):nl.length=g.vars.toNat∧∀ v,v < g.vars.toNat→(ZaK (stG g v) []).2.code=0∧nl.getD v []=(ZaK (stG g v) []).1:=by
 obtain⟨h1,_,h3⟩:=ZpS h
 simp only[List.length_nil,Nat.zero_add] at h1 h3
 exact⟨h1,h3⟩
theorem Zwy {g:Gram} (hg:g.ok) {v:Nat} (hv:v < g.vars.toNat):(stG g v).ok :=
 { hg with start:=(by show (v:Int) < g.vars;omega),start0:=(by show 0≤(v:Int);omega) }
theorem Zxp {g:Gram} (hg:g.ok) {v:Nat} (hv:v < g.vars.toNat):cycL (stG g v)=cycL g:=by rw[ZnB (Zwy hg hv),ZnB hg];rfl
theorem Zyv {g:Gram} (hg:g.ok) (hc:cycL g=[]):chF g []=⟨0,0⟩:=by
 unfold chF
 rw[hg.fault,if_pos rfl,hc]
 rfl
theorem ZtN {g:Gram} {w:List Int} (hch:chF g w=⟨0,0⟩) (h:¬ (ZaK g w).2.code=0):ZaK g w=([],⟨6, -1⟩):=by
 have e:ZaK g w=if (opF g w).code=0 then (if 200 < cntF g w then ([],⟨6, -1⟩) else Zdd g w (cntF g w) 0 []) else ([],opF g w):=rfl
 have ho:opF g w=if cntF g w=Zag then ⟨6, -1⟩ else ⟨0,0⟩:=by unfold opF;rw[hch,if_pos rfl]
 rw[e] at h ⊢
 by_cases hm:cntF g w=Zag
 ·rw[if_pos hm] at ho
  rw[ho,if_neg (by decide)]
 ·rw[if_neg hm] at ho
  rw[ho,if_pos rfl] at h ⊢
  by_cases h2:200 < cntF g w
  ·rw[if_pos h2]
  ·rw[if_neg h2] at h ⊢
   exact Zmw _ _ _ h
theorem ZtO {g:Gram} (hg:g.ok) (hc:cycL g=[]) {v:Nat} (hv:v < g.vars.toNat) (h:¬ (ZaK (stG g v) []).2.code=0):ZaK (stG g v) []=([],⟨6, -1⟩) :=
 ZtN (Zyv (Zwy hg hv) (by rw[Zxp hg hv,hc])) h
def thM (nl:List (List Tree)):List Int→List Nat→Nat→List Int×List Frag
 | [],_,_=>([],[])
 | s::ss,p,h=>if s < 0 then (s::(thM nl ss p h).1,(thM nl ss p h).2) else match p with
  | []=>([],[])
  | 0::p=>(s::(thM nl ss p (h+1)).1,ZmX h::(thM nl ss p (h+1)).2)
  | (a+1)::p=>((thM nl ss p h).1,asF ((nl.getD s.toNat []).getD a (.mk 0 []))::(thM nl ss p h).2)
def tups:List Nat→List (List Nat)
 | []=>[[]]
 | c::cs=>(List.range c).flatMap fun a=>(tups cs).map (a::·)
def ZcE (nl:List (List Tree)) (syms:List Int):List Nat:=(kids syms).map fun s=>(nl.getD s.toNat []).length+1
theorem Zf9 (nl:List (List Tree)) (left:Int) (r:Nat):∀ (ss:List Int) (h:Nat) (right:List Int) (l:List Frag) (S:TS),thR nl left r ss h right l S=thL (fun p S=>S.put left r (right++(thM nl ss p h).1) (l++(thM nl ss p h).2)) (tups (ZcE nl ss)) S
 | [],h,right,l,S=>by
  simp only[thR,ZcE,kids,List.filter_nil,List.map_nil,tups,thL,thM,List.append_nil]
  cases S.put left r right l <;> rfl
 | s::ss,h,right,l,S=>by
  rw[thR]
  by_cases hs:s < 0
  ·rw[if_pos hs,Zf9 nl left r ss h]
   have e:ZcE nl (s::ss)=ZcE nl ss:=by unfold ZcE;rw[ZsY hs]
   rw[e]
   refine Zf8 (fun p _ S=>?_) S
   simp only[thM,hs,if_true,List.append_assoc,List.singleton_append]
  ·rw[if_neg hs]
   have e:ZcE nl (s::ss)=((nl.getD s.toNat []).length+1)::ZcE nl ss:=by unfold ZcE;rw[ZsZ hs];rfl
   rw[e,tups,List.range_succ_eq_map,List.flatMap_cons,ZgQ,Zlb,Zf9 nl left r ss (h+1)]
   have e1:thL (fun p S=>S.put left r (right++[s]++(thM nl ss p (h+1)).1) (l++[ZmX h]++(thM nl ss p (h+1)).2)) (tups (ZcE nl ss)) S=thL (fun x S=>S.put left r (right++(thM nl (s::ss) (0::x) h).1) (l++(thM nl (s::ss) (0::x) h).2)) (tups (ZcE nl ss)) S:=by
    refine Zf8 (fun p _ S=>?_) S
    simp only[thM,hs,if_false,List.append_assoc,List.singleton_append]
   rw[e1]
   cases thL (fun x S=>S.put left r (right++(thM nl (s::ss) (0::x) h).1) (l++(thM nl (s::ss) (0::x) h).2)) (tups (ZcE nl ss)) S with
   | error e=>rfl
   | ok S' =>
    dsimp only
    rw[ZpR,Zlb]
    have e2:∀ (ts:List Tree) (k:Nat),(nl.getD s.toNat []).drop k=ts→∀ S,thL (fun t S=>thR nl left r ss h right (l++[asF t]) S) ts S=thL (fun a S=>thL (fun p S=>S.put left r (right++(thM nl (s::ss) p h).1) (l++(thM nl (s::ss) p h).2)) ((tups (ZcE nl ss)).map ((a+1)::·)) S) (List.range' k ts.length) S:=by
     intro ts
     induction ts with
     | nil=>intro k hk S;rfl
     | cons t ts ih =>
      intro k hk S
      have hkl:k < (nl.getD s.toNat []).length:=Classical.byContradiction fun hn=>by
       rw[List.drop_of_length_le (by omega)] at hk;cases hk
      rw[List.drop_eq_getElem_cons hkl] at hk
      obtain⟨h1,h2⟩:=List.cons.inj hk
      rw[List.length_cons,List.range'_succ]
      simp only[thL]
      rw[Zf9 nl left r ss h,Zlb]
      have e3:thL (fun p S=>S.put left r (right++(thM nl ss p h).1) (l++[asF t]++(thM nl ss p h).2)) (tups (ZcE nl ss)) S=thL (fun x S=>S.put left r (right++(thM nl (s::ss) ((k+1)::x) h).1) (l++(thM nl (s::ss) ((k+1)::x) h).2)) (tups (ZcE nl ss)) S:=by
       refine Zf8 (fun p _ S=>?_) S
       have:(nl.getD s.toNat []).getD k (.mk 0 [])=t:=by rw[List.getD_eq_getElem?_getD,List.getElem?_eq_getElem hkl];exact h1
       simp only[thM,hs,if_false,this,List.append_assoc,List.singleton_append]
      rw[e3]
      cases thL (fun x S=>S.put left r (right++(thM nl (s::ss) ((k+1)::x) h).1) (l++(thM nl (s::ss) ((k+1)::x) h).2)) (tups (ZcE nl ss)) S with
      | error e=>rfl
      | ok S'=>exact ih (k+1) h2 S'
    have:=e2 (nl.getD s.toNat []) 0 (by rw[List.drop_zero]) S'
    rw[this,List.range_eq_range']
theorem ZpT:∀ (cs:List Nat) (p:List Nat),p∈tups cs→p.length=cs.length∧∀ k,∀ h:k < cs.length,p.getD k 0 < cs[k]
 | [],p,h=>by
  simp only[tups,List.mem_singleton] at h
  subst h
  exact⟨rfl,fun k hk=>by simp at hk⟩
 | c::cs,p,h=>by
  rw[tups] at h
  simp only[List.mem_flatMap,List.mem_range,List.mem_map] at h
  obtain⟨a,ha,q,hq,rfl⟩:=h
  obtain⟨h1,h2⟩:=ZpT cs q hq
  refine⟨by simp[h1],fun k hk=>?_⟩
  cases k with
  | zero=>simpa using ha
  | succ k =>
   have:=h2 k (by simpa using hk)
   simp only[List.getD_cons_succ,List.getElem_cons_succ]
   exact this
theorem Zv2:∀ l:List Tree,cpL (asFs l)=cnts l:=by
 have key:∀ (n:Nat) (l:List Tree),cnts l < n→cpL (asFs l)=cnts l:=by
  intro n
  induction n with
  | zero=>intro l h;omega
  | succ n ih =>
   intro l
   induction l with
   | nil=>intro _;rfl
   | cons x l ihl =>
    intro h
    cases x with
    | mk r k =>
     simp only[cnts,cnt] at h
     simp only[asFs,cpL,cnts,asF,cpF,cnt]
     have e1:=ihl (by omega)
     have e2:=ih k (by omega)
     rw[e1,e2]
     simp
 exact fun l=>key _ l (Nat.lt_succ_self _)
theorem Zxq (x:Tree):cpF (asF x)=cnt x:=by
 have:=Zv2 [x]
 simpa[asFs,cpL,cnts] using this
theorem ZpU (nl:List (List Tree)):∀ (ss:List Int) (p:List Nat) (h:Nat),cpL (thM nl ss p h).2=fszs (thM nl ss p h).2
 | [],p,h=>by simp[thM,cpL,fszs]
 | s::ss,p,h=>by
  by_cases hs:s < 0
  ·simp only[thM,hs,if_true]
   exact ZpU nl ss p h
  ·cases p with
   | nil=>simp[thM,hs,cpL,fszs]
   | cons a p =>
    cases a with
    | zero =>
     simp only[thM,hs,if_false,cpL,fszs]
     rw[ZpU nl ss p (h+1)];simp[cpF,fsz,fszs]
    | succ a =>
     simp only[thM,hs,if_false,cpL,fszs]
     rw[ZpU nl ss p h,Zxq,Zoi]
section
variable {P:Program} (T:TT P)
theorem Zq9 {t e:TypeId} {y ye:Ty} (ht:T.rows[t]? = some y) (hel:y.elem=some e) (hte:T.rows[e]? = some ye) {ba:Option Addr} {len cap:Nat} {kh km:IntKind} (hlc:len≤cap) (w:World) :
  (Instr.sliceAt t (.slice ba len cap) none (some (.int kh len)) (some (.int km len))).run P w=.ok (.slice (if len=0 then ba else ba.map (·.add (0 * ye.size))) len len) w:=by
 obtain⟨_,ds,_,k2,_,_,_,_,k7,_⟩:=ZaA (T.at ht)
 obtain⟨i,_,g1,_,g3,_⟩:=ZaA (T.at hte)
 have hds:=k7 e hel
 subst hds
 have e1:(0:Int)≤(len:Int)∧(len:Int)≤(cap:Int):=by omega
 have e2:(0:Int)≤(len:Int)∧(len:Int)≤(len:Int):=by omega
 simp[Instr.sliceAt,run_underlying k2,Instr.slice,Instr.sliceBounds,Instr.sliceBound,asIntOf,sizeOf,typeInfo,g1,g3,hlc]
theorem Zxr {M:Bars} {w:World} {t:Bool} {sz:Nat} {es:List D} {ba:Option Addr} {cap:Nat} (hr:D.Rep M w (.sl t sz es) [.slice ba es.length cap]) (hm:es.length≤maxLen) :
  D.Rep M w (.sl t sz es) [.slice (if es.length=0 then ba else ba.map (·.add (0 * sz))) es.length es.length]:=by
 simp only[D.Rep,List.cons.injEq,and_true,Value.slice.injEq] at hr ⊢
 obtain⟨a,cp,us,⟨rfl,_,rfl⟩,q1,q2,q3,q4,q5⟩:=hr
 refine⟨_,es.length,us,⟨rfl,trivial,rfl⟩,by omega,hm,q3,q4,fun hne=>?_⟩
 obtain⟨b,off,rfl,g1,g2,g3⟩:=q5 hne
 have:es.length≠0:=fun e=>hne (List.eq_nil_of_length_eq_zero e)
 rw[if_neg this]
 refine⟨b,off,by simp[Addr.add_mid],g1,g2,g3⟩
variable {n:Nat} {dr:Bool} {ops:Array Oper} {rest:List Oper} {log:List Rec} {K:Exit→Fr→Hp→Prop} {fr:Fr} {h:Hp}
variable {d:Nat} {ty:TypeId} {pos:String} {after:Array Edge} {g:Option (Nat×Bool)}
theorem Zcs {x xh xm:Operand} {t e:Nat} {tb:Bool} {sz m:Nat} {es:List D} {y ye:Ty} (hm:es.length=m) (hdn:Nat.blt d n=true) (hg:gOk ops fr g) (hx:oev fr x=.d (.sl tb sz es)) (hh:oev fr xh=I (m:Int)) (hc:oev fr xm=I (m:Int))
  (ht:T.rows[t]? = some y) (hel:y.elem=some e) (hte:T.rows[e]? = some ye) (hsz:Nat.beq ye.size sz=true)
  (hr:dops P n dr ops rest (⟨(gIns ops g++(Zaz x (.d (.sl tb sz es))++(Zaz xh (I (m:Int))++Zaz xm (I (m:Int))))).map Prod.fst,[d],[],[]⟩::log) K ((d,.full tb sz es)::fr) h):dops P n dr ops (⟨some d,.slice t x none (some xh) (some xm),ty,pos,after,g⟩::rest) log K fr h:=by
 subst hm
 refine Zaw (ins:=gIns ops g++(Zaz x (.d (.sl tb sz es))++(Zaz xh (I (es.length:Int))++Zaz xm (I (es.length:Int))))) (objs:=[]) (v:=.full tb sz es) (upd:=[]) (LStep.pure rfl hdn rfl hg _ [] _ fun G E fr' h' a w C hi' _=>?_) (Zcv hg (fun p hp=>?_)) (by simp) hr
 ·simp only[List.mem_append] at hi'
  obtain⟨r,_⟩:=C.oev (Zb2 hx (fun p hp=>hi' p (.inl hp))) (Zao (Zaj hx rfl))
  obtain⟨r1,_⟩:=C.oev (Zb2 hh (fun p hp=>hi' p (.inr (.inl hp)))) (Zao (Zaj hh rfl))
  obtain⟨r2,_⟩:=C.oev (Zb2 hc (fun p hp=>hi' p (.inr (.inr hp)))) (Zao (Zaj hc rfl))
  simp only[V.Rep,D.RepV,D.Rep,List.cons.injEq,and_true] at r1 r2
  simp only[V.Rep,D.RepV] at r
  have r':=r
  simp only[D.Rep,List.cons.injEq,and_true] at r'
  obtain⟨ba,cap,us,hev,q1,q2,_⟩:=r'
  rw[hev] at r
  have hs:=Nat.eq_of_beq_eq_true hsz
  have hrun:=Zq9 T ht hel hte (ba:=ba) (len:=es.length) (cap:=cap) (kh:=.i64) (km:=.i64) q1 w
  rw[hs] at hrun
  refine⟨_,?_,by simp only[V.Rep,D.RepV];exact⟨Zxr r (by omega),_,rfl⟩,by simp[V.keys]⟩
  simp only[execOp,hev,r1.1,r2.1,Option.map_none,Option.map_some,Sem.run_bind,hrun,Result.andThen_ok,Sem.run_pure]
 ·simp only[List.mem_append] at hp
  rcases hp with hp|hp|hp
  ·exact Zbp hx p hp
  ·exact Zbp hh p hp
  ·exact Zbp hc p hp
end
set_option maxRecDepth 100000
theorem Zv3 {l:List Tree} {i:Nat} (h:i < l.length):((l.take (i+1)).map asF).map (ZaG false)=((l.take i).map asF).map (ZaG false)++[Zk4 false (asF l[i])]:=by
 rw[List.take_succ_eq_append_getElem h,List.map_append,List.map_append]
 simp only[List.map_cons,List.map_nil,ZbQ]
theorem Zy5 (x:Tree):Zk4 false (asF x)=.agg [iD 1,iD x.rule,Zah false (x.kids.map asF)]:=by rw[Zyu];rfl
set_option maxHeartbeats 4000000 in
theorem Zoj {t:Bool}:∀ (x:Tree),cnt x≤100000000→ACalls Tryz.prog 186 [.d (Zbf t x)] [] (.d (Zk4 false (asF x))) []:=by
 refine Tree.ind fun x ih hx=>?_
 rw[Zy5]
 refine ACalls.intro (n:=25) Tryz.func186 rfl rfl (by simp) (by rfl) ?_
 simp only[Zal]
 have hk:=ZcN hx
 refine VA ?_
 refine ZaB 3 2 900 102 3 rfl rfl rfl rfl ?_
 refine Zak (X:=Nat) (fun i=>i≤x.kids.length) (fun i=>[(12,I i),(11,I x.kids.length),(10,.d (Zap t x.kids)),(3,.ptr 3 0),(2,.ptr 2 0)]) (fun i=>[(2,.box 102 [.d (iD 0),.d (iD 0),.d (.raw (.slice none 0 0))]),(3,.box 102 [.d (iD 1),.d (iD x.rule),.own 900 (x.kids.take i).length]),(900,.row 102 3 (((x.kids.take i).map asF).map (ZaG false)))]) (fun i=>x.kids.length - i) 0 (Nat.zero_le _) ?_
 intro i hi
 by_cases hlt:i < x.kids.length
 ·have e:=Zv3 hlt
  have hl:(((x.kids.take i).map asF).map (ZaG false)).length=(x.kids.take i).length:=by simp
  refine VA ?_
  refine Zab [] (hA:=ih x.kids[i] (List.getElem_mem hlt) (ZiD hx hlt).1) (hr:=?_)
  refine VA ?_
  exact Zae (i+1)
 ·rw[show x.kids.take i=x.kids from List.take_of_length_le (by omega)]
  refine Zav 900 rfl ?_
  refine VA ?_
  exact fin
set_option maxHeartbeats 4000000 in
theorem Zlc:∀ (n:Nat) {t:Bool} {l:List Frag},fszs l < n→fszs l≤100000000→ACalls Tryz.prog 185 [.d (Zah t l)] [] (I (fszs l)) []:=by
 intro n
 induction n with
 | zero=>intro t l h;omega
 | succ n ih =>
  intro t l hn hl
  have hll:=Zbs l
  refine ACalls.intro (n:=21) Tryz.func185 rfl rfl (by simp) (by rfl) ?_
  simp only[Zal]
  refine VA ?_
  refine Zak (X:=Nat) (fun i=>i≤l.length) (fun i=>[(10,I i),(9,I l.length),(8,.d (Zah t l)),(3,I ((fszs (l.take i)+(l.length - i):Nat):Int)),(2,I 0)]) (fun _=>[]) (fun i=>l.length - i) 0 (Nat.zero_le _) ?_ (hf:=⟨.of rfl,.of rfl,.of rfl,VLe.of (by simp[fszs];rfl),.of rfl,trivial⟩)
  intro i hi
  by_cases hlt:i < l.length
  ·have e1:=ZfO hlt
   have e2:=ZdO l (i+1)
   have e3:=Ze8 l[i]
   have e4:=Zbs (l.drop (i+1))
   rw[List.length_drop] at e4
   have hc:=@ih t l[i].l (by omega) (by omega)
   have ea:((fszs (l.take i)+(l.length - i):Nat):Int)+((fszs l[i].l:Nat):Int)=((fszs (l.take (i+1))+(l.length - (i+1)):Nat):Int):=by omega
   have hb:((fszs (l.take i)+(l.length - i):Nat):Int)+((fszs l[i].l:Nat):Int)≤100000000:=by omega
   clear e1 e2 e3 e4
   generalize fszs (l.take i)+(l.length - i)=c1 at *
   generalize hc2:fszs (l.take (i+1))+(l.length - (i+1))=c2 at *
   generalize fszs l[i].l=c3 at *
   refine VA ?_
   refine Zab [] (hA:=hc) (hr:=?_)
   refine VA ?_
   rw[ea]
   subst hc2
   exact Zae (i+1)
  ·have e:l.take i=l:=List.take_of_length_le (by omega)
   have e2:l.length - i=0:=by omega
   rw[e,e2,Nat.add_zero]
   refine VA ?_
   exact fin
theorem Zga {t:Bool} {l:List Frag} (h:fszs l≤100000000):ACalls Tryz.prog 185 [.d (Zah t l)] [] (I (fszs l)) []:=Zlc _ (Nat.lt_succ_self _) h
set_option maxRecDepth 100000
abbrev thBx (t:Bool) (g:Gram) (nl:List (List Tree)) (n m:Nat):Ob:=.box 160 [.d (iD g.vars),.d (iD g.terms),.d (iD g.start),.d (ZaL t g.rules),.d (.sl false 1 (nl.map (Zap false))),.d (iD g.vars),.d (iD g.terms),.d (iD g.start),.own 1001 n,.own 1002 m,.d (.raw (.slice none 0 0))]
abbrev thHr (t:Bool) (g:Gram) (nl:List (List Tree)) (R F:List D):Hp:=[(1000,thBx t g nl R.length F.length),(1001,.row 68 2 R),(1002,.row 75 1 F)]
abbrev thH (t:Bool) (g:Gram) (nl:List (List Tree)) (S:TS):Hp:=thHr t g nl (S.rules.map (ZaR false)) (S.frags.map (Zah false))
def ZmZ (r:Nat):Value:=.iface 161 (.agg #[.int .i64 6,.int .i64 (r:Int)])
def DoesTh (t:Bool) (g:Gram) (nl:List (List Tree)) (r:Nat) (args:List V) (S:TS):Except TS TS→Prop
 | .ok S'=>ACalls Tryz.prog 122 args (thH t g nl S) (.tup []) (thH t g nl S')
 | .error e=>APan Tryz.prog 122 args (thH t g nl S) (ZmZ r) (thH t g nl e)
structure TS.Good (S:TS):Prop where
 rules:S.rules.length≤160
 frags:S.frags.length=S.rules.length
def NlOk (nl:List (List Tree)):Prop:=nl.length≤64∧(∀ l∈nl,l.length≤200)∧∀ l∈nl,∀ x∈l,cnt x≤400∧NbF 1000000000 (asF x)
theorem TS.put_good {S S':TS} {left:Int} {r:Nat} {right:List Int} {l:List Frag} (h:S.put left r right l=.ok S') (g:S.Good):S'.Good:=by
 unfold TS.put at h
 split at h
 ·cases h;exact g
 ·split at h
  ·cases h
  ·rename_i h1 h2
   cases h
   exact⟨by have:=g.rules;simp only[List.length_append,List.length_singleton];omega,by simp[g.frags]⟩
theorem ZpV {α:Type} {f:α→TS→Except TS TS}:∀ {ts:List α} {S S':TS},(∀ x∈ts,∀ S S',f x S=.ok S'→S.Good→S'.Good)→thL f ts S=.ok S'→S.Good→S'.Good
 | [],S,S',_,h,g=>by cases h;exact g
 | t::ts,S,S',hf,h,g=>by
  rw[thL] at h
  cases hc:f t S with
  | error e=>rw[hc] at h;cases h
  | ok S1=>rw[hc] at h;exact ZpV (fun x hx=>hf x (by simp[hx])) h (hf t (by simp) S S1 hc g)
theorem Zld (nl:List (List Tree)) (left:Int) (r:Nat) (ss:List Int) (h:Nat) (right:List Int) (l:List Frag) {S S':TS} (e:thR nl left r ss h right l S=.ok S') (g:S.Good):S'.Good:=by
 rw[Zf9] at e
 exact ZpV (fun p _ S S' h g=>TS.put_good h g) e g
theorem Zle {B:Int} {x:Frag}:∀ {l:List Frag},NbL B l→NbF B x→NbL B (l++[x])
 | [],_,hx=>⟨hx,trivial⟩
 | y::l,h,hx=>⟨h.1,Zle h.2 hx⟩
section
variable {t:Bool} {g:Gram} {nl:List (List Tree)}
set_option maxHeartbeats 8000000 in
theorem Zjc {r:Nat} {right:List Int} {l:List Frag} {h:Nat} {S:TS} (hg:g.ok) (hr:r < g.rules.length) (hS:S.Good) (hrl:right.length≤10) (hl:fszs l≤5000) (h0:¬ right.length=0) (hp:S.rules.length=160∨60 < fszs l+1) :
  APan Tryz.prog 122 [.ptr 1000 0,I (r:Nat),I (g.rules[r].right.length:Nat),I (h:Nat),.d (ints false right),.d (Zah false l)] (thH t g nl S) (ZmZ r) (thH t g nl S):=by
 have hrr:=hg.right _ (List.getElem_mem hr)
 have hrules:=hg.rules
 have hpt:=Zga (t:=false) (l:=l) (by omega)
 have hf1:=hS.rules
 have hf2:=hS.frags
 simp only[thH,thHr,thBx]
 refine APan.intro (n:=156) Tryz.func122 rfl rfl (by simp) (by rfl) rfl ?_
 simp only[Zal]
 by_cases h1:S.rules.length=160
 ·(repeat (first|refine wk ?_|refine Zaa (hr:=?_)))
  (repeat (first|refine wkz ?_|refine Zaa (hr:=?_)))
  refine VA ?_
  refine ZnY rfl Zaf rfl rfl rfl Tryz.underlying161 rfl ?_
  refine ZnZ [(1000,some (thBx t g nl (S.rules.map (ZaR false)).length (S.frags.map (Zah false)).length)),(1001,some (.row 68 2 (S.rules.map (ZaR false)))),(1002,some (.row 75 1 (S.frags.map (Zah false))))] 999 Zaf rfl (fun p hp=>by rcases List.mem_cons.1 hp with rfl|hp;exact rfl;rcases List.mem_cons.1 hp with rfl|hp;exact rfl;rw[List.mem_singleton.1 hp];rfl) (fun fr' h' ho=>⟨rfl,⟨HElt.of (ho _ List.mem_cons_self),HElt.of (ho _ (List.mem_cons_of_mem _ List.mem_cons_self)),HElt.of (ho _ (List.mem_cons_of_mem _ (List.mem_cons_of_mem _ (List.mem_singleton.2 rfl)))),trivial⟩,rfl⟩) ?_
  refine Zb7 (Zby ?_)
  exact Zms (Nev.obj 999 rfl)
 ·have h2:60 < fszs l+1:=by omega
  refine VA ?_
  refine Zab [] (hA:=hpt) (hr:=?_)
  refine VA ?_
  refine ZnY rfl Zaf rfl rfl rfl Tryz.underlying161 rfl ?_
  refine ZnZ [(1000,some (thBx t g nl (S.rules.map (ZaR false)).length (S.frags.map (Zah false)).length)),(1001,some (.row 68 2 (S.rules.map (ZaR false)))),(1002,some (.row 75 1 (S.frags.map (Zah false))))] 999 Zaf rfl (fun p hp=>by rcases List.mem_cons.1 hp with rfl|hp;exact rfl;rcases List.mem_cons.1 hp with rfl|hp;exact rfl;rw[List.mem_singleton.1 hp];rfl) (fun fr' h' ho=>⟨rfl,⟨HElt.of (ho _ List.mem_cons_self),HElt.of (ho _ (List.mem_cons_of_mem _ List.mem_cons_self)),HElt.of (ho _ (List.mem_cons_of_mem _ (List.mem_cons_of_mem _ (List.mem_singleton.2 rfl)))),trivial⟩,rfl⟩) ?_
  refine Zb7 (Zby ?_)
  exact Zms (Nev.obj 999 rfl)
set_option maxHeartbeats 8000000 in
theorem Zra {r:Nat} {right:List Int} {l:List Frag} {h:Nat} {S:TS} (hg:g.ok) (hr:r < g.rules.length) (hS:S.Good) (hrl:right.length≤10) (hl:fszs l≤5000) (hnb:NbL 1000000000 l) :
  DoesTh t g nl r [.ptr 1000 0,I (r:Nat),I (g.rules[r].right.length:Nat),I (h:Nat),.d (ints false right),.d (Zah false l)] S (S.put g.rules[r].left r right l):=by
 have hrr:=hg.right _ (List.getElem_mem hr)
 have hrules:=hg.rules
 have hpt:=Zga (t:=false) (l:=l) (by omega)
 have hf1:=hS.rules
 have hf2:=hS.frags
 unfold TS.put
 by_cases h0:right.length=0
 ·rw[if_pos h0]
  show ACalls _ _ _ _ _ _
  simp only[thH,thHr,thBx]
  refine ACalls.intro (n:=156) Tryz.func122 rfl rfl (by simp) (by rfl) ?_
  simp only[Zal]
  refine VA ?_
  exact fin
 rw[if_neg h0]
 by_cases hp:S.rules.length=160∨60 < fszs l+1
 ·rw[if_pos hp]
  exact Zjc hg hr hS hrl hl h0 hp
 rw[if_neg hp]
 show ACalls _ _ _ _ _ _
 have h1:¬ S.rules.length=160:=fun e=>hp (.inl e)
 have h2:¬ 60 < fszs l+1:=fun e=>hp (.inr e)
 have hcl:=ZbX (t:=false) (xs:=right) (by omega)
 have how:=Zlh (t:=false) (l:=[.mk 1 r l]) (by simp only[fszs,fsz];omega) (by refine⟨?_,trivial⟩;exact⟨by omega,hnb⟩)
 have e1:(S.rules++[(⟨g.rules[r].left,right⟩:Rule)]).map (ZaR false)=S.rules.map (ZaR false)++[D.agg [iD g.rules[r].left,ints false right]]:=by simp[ZaR]
 have e2:(S.frags++[[Frag.mk 1 r l]]).map (Zah false)=S.frags.map (Zah false)++[Zah false [.mk 1 r l]]:=by simp
 have hfr:Zah false [Frag.mk 1 r l]=.sl false 3 [.agg [iD 1,iD r,Zah false l]]:=by simp[ZaG,ZbP]
 rw[hfr] at how e2
 simp only[thH,thHr,thBx,e1,e2]
 refine ACalls.intro (n:=156) Tryz.func122 rfl rfl (by simp) (by rfl) ?_
 simp only[Zal]
 refine VA ?_
 refine Zab [] (hA:=hpt) (hr:=?_)
 refine VA ?_
 refine Zab [(5,905)] (hA:=hcl) (hr:=?_)
 refine VA ?_
 refine Zab [] (hA:=how) (hr:=?_)
 refine VA ?_
 exact fin
end
set_option maxRecDepth 100000
abbrev Zxs:D:=.raw (.slice none 0 0)
theorem APan.leT {P:Program} {f:FuncId} {args args':List V} {h h':Hp} {u:Value} (hA:APan P f args' h u h') (hl:VLes args args'):APan P f args h u h' :=
 ⟨hA.ok,fun E w us o H hr hk ho hs=>hA.run E w us o H (hl.reps hr) (by rw[←hl.keys];exact hk) ho hs⟩
section
variable {t:Bool} {g:Gram} {nl:List (List Tree)}
theorem DoesTh.le {r:Nat} {args args':List V} {S:TS} {R:Except TS TS} (hA:DoesTh t g nl r args' S R) (hl:VLes args args'):DoesTh t g nl r args S R:=by
 cases R with
 | error e=>exact APan.leT (show APan _ _ _ _ _ _ from hA) hl
 | ok p=>exact ACalls.le (show ACalls _ _ _ _ _ _ from hA) hl
theorem ZtP (l:List Frag) (h:Nat):DLe (.sl false 3 (l.map (ZaG false)++[.agg [iD 2,iD h,Zxs]])) (Zah false (l++[ZmX h])) :=
 DLe.sl (DLes.snoc (y:=.agg [iD 2,iD h,.sl false 3 []]) (by simp[ZaG,Zdv]) (.agg (.cons (.refl _) (.cons (.refl _) (.cons (.nil _ _) .nil)))))
theorem Zv4 (l:List Frag) (h:Nat):VLe (.d (.sl false 3 (l.map (ZaG false)++[.agg [iD 2,iD h,Zxs]]))) (.d (Zah false (l++[ZmX h]))) :=
 VLe.d (ZtP l h) (fun M w u k=>by simp only[D.RepV] at k ⊢;exact (ZtP l h).rep M w [u] k)
set_option maxHeartbeats 16000000 in
theorem Zrb (hg:g.ok) (hn:NlOk nl) (hnv:nl.length=g.vars.toNat) {r:Nat} (hr:r < g.rules.length):∀ (n at_ h:Nat) (right:List Int) (l:List Frag) (S:TS),g.rules[r].right.length - at_ < n→at_≤g.rules[r].right.length→right.length+(g.rules[r].right.length - at_)≤10→h≤at_→fszs l+401 * (g.rules[r].right.length - at_)≤5000→NbL 1000000000 l→S.Good →
  DoesTh t g nl r [.ptr 1000 0,I (r:Nat),I (at_:Nat),I (h:Nat),.d (ints false right),.d (Zah false l)] S (thR nl g.rules[r].left r (g.rules[r].right.drop at_) h right l S):=by
 intro n
 induction n with
 | zero=>intro at_ h right l S hn';omega
 | succ n ih =>
 intro at_ h right l S hn' hat hrl hh hl hnb hS
 by_cases hal:at_ < g.rules[r].right.length
 rotate_left
 ·obtain rfl:at_=g.rules[r].right.length:=by omega
  rw[List.drop_of_length_le (Nat.le_refl _),thR]
  exact Zra hg hr hS (by omega) (by omega) hnb
 have hrr:=hg.right _ (List.getElem_mem hr)
 have hhi:=hg.hi _ (List.getElem_mem hr) _ (List.getElem_mem hal)
 have hrules:=hg.rules
 have hvars:=hg.vars
 have hf1:=hS.rules
 have hf2:=hS.frags
 have hll:=Zbs l
 have hne:¬ (at_:Int)=g.rules[r].right.length:=by omega
 rw[List.drop_eq_getElem_cons hal,thR]
 have er:ints false (right++[g.rules[r].right[at_]])=.sl false 1 (right.map iD++[iD g.rules[r].right[at_]]):=by simp[ints]
 by_cases hs:g.rules[r].right[at_] < 0
 ·rw[if_pos hs]
  have hi:=ih (at_+1) h (right++[g.rules[r].right[at_]]) l S (by omega) (by omega) (by simp only[List.length_append,List.length_singleton];omega) (by omega) (by omega) hnb hS
  rw[er,show ((at_+1:Nat):Int)=(at_:Int)+1 by omega] at hi
  cases hc:thR nl g.rules[r].left r (g.rules[r].right.drop (at_+1)) h (right++[g.rules[r].right[at_]]) l S with
  | error e =>
   rw[hc] at hi
   replace hi:APan _ _ _ _ _ _:=hi
   clear ih
   show APan _ _ _ _ _ _
   simp only[thH,thHr,thBx] at *
   refine APan.intro (n:=156) Tryz.func122 rfl rfl (by simp) (by rfl) rfl ?_
   simp only[Zal]
   refine VA ?_
   refine Zcs TY (by simp) rfl Zaf rfl rfl rfl rfl rfl rfl rfl ?_
   refine VA ?_
   refine Zb8 TY rfl rfl Zaf rfl rfl rfl (ArgIs.own rfl rfl) (.inr ⟨⟨_,rfl⟩,.inr (by simp)⟩) rfl rfl rfl rfl rfl rfl rfl rfl (by simp;omega) (by simp;omega) ?_
   refine VA ?_
   refine Zdb [] [] [] (hpn:=?_) (hA:=hi)
   exact (fun fr' h' _ _=>⟨rfl,⟨HElt.of rfl,HElt.of rfl,HElt.of rfl,trivial⟩,rfl⟩)
  | ok S' =>
   rw[hc] at hi
   replace hi:ACalls _ _ _ _ _ _:=hi
   clear ih
   show ACalls _ _ _ _ _ _
   simp only[thH,thHr,thBx] at *
   refine ACalls.intro (n:=156) Tryz.func122 rfl rfl (by simp) (by rfl) ?_
   simp only[Zal]
   refine VA ?_
   refine Zcs TY (by simp) rfl Zaf rfl rfl rfl rfl rfl rfl rfl ?_
   refine VA ?_
   refine Zb8 TY rfl rfl Zaf rfl rfl rfl (ArgIs.own rfl rfl) (.inr ⟨⟨_,rfl⟩,.inr (by simp)⟩) rfl rfl rfl rfl rfl rfl rfl rfl (by simp;omega) (by simp;omega) ?_
   refine VA ?_
   refine Zab [] (hA:=hi) (hr:=?_)
   refine VA ?_
   exact fin
 rw[if_neg hs]
 obtain⟨sn,hsn⟩:∃ sn:Nat,g.rules[r].right[at_]=(sn:Int):=⟨g.rules[r].right[at_].toNat,by omega⟩
 have hsl:sn < nl.length:=by omega
 have hs0:0≤g.rules[r].right[at_]:=by omega
 have hgd:nl.getD g.rules[r].right[at_].toNat []=nl[sn]:=by rw[hsn,Int.toNat_natCast,List.getD_eq_getElem?_getD,List.getElem?_eq_getElem hsl];rfl
 rw[hgd]
 have hts:=hn.2.2 _ (List.getElem_mem hsl)
 have htl:=hn.2.1 _ (List.getElem_mem hsl)
 have hnl64:=hn.1
 have hi1:=ih (at_+1) (h+1) (right++[g.rules[r].right[at_]]) (l++[ZmX h]) S (by omega) (by omega) (by simp only[List.length_append,List.length_singleton];omega) (by omega) (by rw[Zbc];simp only[fszs,fsz];omega) (Zle hnb (by refine⟨⟨by omega,by omega⟩,trivial⟩)) hS
 replace hi1:=hi1.le (args:=[.ptr 1000 0,I (r:Nat),I ((at_+1:Nat):Int),I ((h+1:Nat):Int),.d (ints false (right++[g.rules[r].right[at_]])),.d (.sl false 3 (l.map (ZaG false)++[.agg [iD 2,iD h,Zxs]]))]) ⟨.refl _,.refl _,.refl _,.refl _,.refl _,Zv4 l h,trivial⟩
 rw[er,show ((at_+1:Nat):Int)=(at_:Int)+1 by omega,show ((h+1:Nat):Int)=(h:Int)+1 by omega] at hi1
 cases hc1:thR nl g.rules[r].left r (g.rules[r].right.drop (at_+1)) (h+1) (right++[g.rules[r].right[at_]]) (l++[ZmX h]) S with
 | error e =>
  rw[hc1] at hi1
  replace hi1:APan _ _ _ _ _ _:=hi1
  clear ih
  show APan _ _ _ _ _ _
  simp only[thH,thHr,thBx] at *
  refine APan.intro (n:=156) Tryz.func122 rfl rfl (by simp) (by rfl) rfl ?_
  simp only[Zal]
  refine VA ?_
  refine Zcs TY (by simp) rfl Zaf rfl rfl rfl rfl rfl rfl rfl ?_
  refine VA ?_
  refine Zb8 TY rfl rfl Zaf rfl rfl rfl (ArgIs.own rfl rfl) (.inr ⟨⟨_,rfl⟩,.inr (by simp)⟩) rfl rfl rfl rfl rfl rfl rfl rfl (by simp;omega) (by simp;omega) ?_
  refine VA ?_
  refine Zcs TY (by simp) rfl Zaf rfl rfl rfl rfl rfl rfl rfl ?_
  refine VA ?_
  refine Zb8 TY rfl rfl Zaf rfl rfl rfl (ArgIs.own rfl rfl) (.inr ⟨⟨_,rfl⟩,.inr (by simp)⟩) rfl rfl rfl rfl rfl rfl rfl rfl (by simp;omega) (by simp;omega) ?_
  refine VA ?_
  refine Zdb [] [] [] (hpn:=?_) (hA:=hi1)
  exact (fun fr' h' _ _=>⟨rfl,⟨HElt.of rfl,HElt.of rfl,HElt.of rfl,trivial⟩,rfl⟩)
 | ok S1 =>
 rw[hc1] at hi1
 replace hi1:ACalls _ _ _ _ _ _:=hi1
 have hS1:=Zld _ _ _ _ _ _ _ hc1 hS
 have hi2:=fun (x:Tree) (hx:x∈nl[sn]) (S:TS) (hS:S.Good)=>by
  have h1:=ih (at_+1) h right (l++[asF x]) S (by omega) (by omega) (by omega) (by omega) (by rw[Zbc];simp only[fszs,Zoi];have:=(hts x hx).1;omega) (Zle hnb (hts x hx).2) hS
  rw[show Zah false (l++[asF x])=.sl false 3 (l.map (ZaG false)++[Zk4 false (asF x)]) by simp[ZbQ],show ((at_+1:Nat):Int)=(at_:Int)+1 by omega] at h1
  exact h1
 have hgl:=fun (x:Tree) (S S':TS) (h:thR nl g.rules[r].left r (g.rules[r].right.drop (at_+1)) h right (l++[asF x]) S=.ok S') (q:S.Good)=>Zld _ _ _ _ _ _ _ h q
 dsimp only
 clear ih hc1
 have hal2:=fun (x:Tree) (hx:x∈nl[sn])=>Zoj (t:=false) x (by have:=(hts x hx).1;omega)
 clear hts
 cases hres:thL (fun t S=>thR nl g.rules[r].left r (g.rules[r].right.drop (at_+1)) h right (l++[asF t]) S) nl[sn] S1 with
 | error e =>
  show APan _ _ _ _ _ _
  simp only[thH,thHr,thBx] at hi1 ⊢
  refine APan.intro (n:=156) Tryz.func122 rfl rfl (by simp) (by rfl) rfl ?_
  simp only[Zal]
  refine VA ?_
  refine Zcs TY (by simp) rfl Zaf rfl rfl rfl rfl rfl rfl rfl ?_
  refine VA ?_
  refine Zb8 TY rfl rfl Zaf rfl rfl rfl (ArgIs.own rfl rfl) (.inr ⟨⟨_,rfl⟩,.inr (by simp)⟩) rfl rfl rfl rfl rfl rfl rfl rfl (by simp;omega) (by simp;omega) ?_
  refine VA ?_
  refine Zcs TY (by simp) rfl Zaf rfl rfl rfl rfl rfl rfl rfl ?_
  refine VA ?_
  refine Zb8 TY rfl rfl Zaf rfl rfl rfl (ArgIs.own rfl rfl) (.inr ⟨⟨_,rfl⟩,.inr (by simp)⟩) rfl rfl rfl rfl rfl rfl rfl rfl (by simp;omega) (by simp;omega) ?_
  refine VA ?_
  refine Zab [] (hA:=hi1) (hr:=?_)
  refine VA ?_
  rw[hsn]
  refine VA ?_
  generalize nl[sn]=ts at *
  refine Zak (X:=Nat×TS) (fun y=>y.1≤ts.length∧y.2.Good∧thL (fun t S=>thR nl g.rules[r].left r (g.rules[r].right.drop (at_+1)) h right (l++[asF t]) S) (ts.drop y.1) y.2=.error e)
   (fun y=>[(134,I y.1),(133,I ts.length),(132,.d (Zap false ts)),(0,.ptr 1000 0),(1,I r),(2,I at_),(3,I h),(4,.d (ints false right)),(5,.d (Zah false l))])
   (fun y=>thH t g nl y.2) (fun y=>ts.length - y.1) (0,S1) ⟨Nat.zero_le _,hS1,hres⟩ ?_
  rintro⟨i,S3⟩ ⟨j1,j2,j3⟩
  dsimp only at j1 j2 j3 ⊢
  by_cases hil:i < ts.length
  rotate_left
  ·rw[show ts.drop i=[] from List.drop_of_length_le (by omega),thL] at j3
   cases j3
  rw[List.drop_eq_getElem_cons hil,thL] at j3
  have hx:=hi2 ts[i] (List.getElem_mem hil) S3 j2
  have hax:=hal2 ts[i] (List.getElem_mem hil)
  have hgx:=hgl ts[i] S3
  clear hi1
  cases hc2:thR nl g.rules[r].left r (g.rules[r].right.drop (at_+1)) h right (l++[asF ts[i]]) S3 with
  | error e2 =>
   rw[hc2] at j3 hx
   obtain rfl:e2=e:=by injection j3
   replace hx:APan _ _ _ _ _ _:=hx
   clear hi2 hal2 hgl hgx
   simp only[thH,thHr,thBx] at hx ⊢
   refine VA ?_
   refine Zcs TY (by simp) rfl Zaf rfl rfl rfl rfl rfl rfl rfl ?_
   refine VA ?_
   refine Zab [] (hA:=hax) (hr:=?_)
   refine VA ?_
   refine Zb8 TY rfl rfl Zaf rfl rfl rfl (ArgIs.own rfl rfl) (.inr ⟨⟨_,rfl⟩,.inr (by simp)⟩) rfl rfl rfl rfl rfl rfl rfl rfl (by simp;omega) (by simp;omega) ?_
   refine VA ?_
   refine Zdb [] [] [] (hpn:=?_) (hA:=hx)
   exact (fun fr' h' _ _=>⟨rfl,⟨HElt.of rfl,HElt.of rfl,HElt.of rfl,trivial⟩,rfl⟩)
  | ok S4 =>
   rw[hc2] at j3 hx
   replace hx:ACalls _ _ _ _ _ _:=hx
   have hS4:=hgx S4 hc2 j2
   clear hi2 hal2 hgl hgx
   simp only[thH,thHr,thBx] at hx ⊢
   refine VA ?_
   refine Zcs TY (by simp) rfl Zaf rfl rfl rfl rfl rfl rfl rfl ?_
   refine VA ?_
   refine Zab [] (hA:=hax) (hr:=?_)
   refine VA ?_
   refine Zb8 TY rfl rfl Zaf rfl rfl rfl (ArgIs.own rfl rfl) (.inr ⟨⟨_,rfl⟩,.inr (by simp)⟩) rfl rfl rfl rfl rfl rfl rfl rfl (by simp;omega) (by simp;omega) ?_
   refine VA ?_
   refine Zab [] (hA:=hx) (hr:=?_)
   refine VA ?_
   exact Zae (i+1,S4) (a:=⟨hil,hS4,j3⟩) (b:=by dsimp only;omega)
 | ok S2 =>
  show ACalls _ _ _ _ _ _
  simp only[thH,thHr,thBx] at hi1 ⊢
  refine ACalls.intro (n:=156) Tryz.func122 rfl rfl (by simp) (by rfl) ?_
  simp only[Zal]
  refine VA ?_
  refine Zcs TY (by simp) rfl Zaf rfl rfl rfl rfl rfl rfl rfl ?_
  refine VA ?_
  refine Zb8 TY rfl rfl Zaf rfl rfl rfl (ArgIs.own rfl rfl) (.inr ⟨⟨_,rfl⟩,.inr (by simp)⟩) rfl rfl rfl rfl rfl rfl rfl rfl (by simp;omega) (by simp;omega) ?_
  refine VA ?_
  refine Zcs TY (by simp) rfl Zaf rfl rfl rfl rfl rfl rfl rfl ?_
  refine VA ?_
  refine Zb8 TY rfl rfl Zaf rfl rfl rfl (ArgIs.own rfl rfl) (.inr ⟨⟨_,rfl⟩,.inr (by simp)⟩) rfl rfl rfl rfl rfl rfl rfl rfl (by simp;omega) (by simp;omega) ?_
  refine VA ?_
  refine Zab [] (hA:=hi1) (hr:=?_)
  refine VA ?_
  rw[hsn]
  refine VA ?_
  generalize nl[sn]=ts at *
  refine Zak (X:=Nat×TS) (fun y=>y.1≤ts.length∧y.2.Good∧thL (fun t S=>thR nl g.rules[r].left r (g.rules[r].right.drop (at_+1)) h right (l++[asF t]) S) (ts.drop y.1) y.2=.ok S2)
   (fun y=>[(134,I y.1),(133,I ts.length),(132,.d (Zap false ts)),(0,.ptr 1000 0),(1,I r),(2,I at_),(3,I h),(4,.d (ints false right)),(5,.d (Zah false l))])
   (fun y=>thH t g nl y.2) (fun y=>ts.length - y.1) (0,S1) ⟨Nat.zero_le _,hS1,hres⟩ ?_
  rintro⟨i,S3⟩ ⟨j1,j2,j3⟩
  dsimp only at j1 j2 j3 ⊢
  by_cases hil:i < ts.length
  rotate_left
  ·rw[show ts.drop i=[] from List.drop_of_length_le (by omega),thL] at j3
   cases j3
   simp only[thH,thHr,thBx] at *
   refine VA ?_
   exact fin
  rw[List.drop_eq_getElem_cons hil,thL] at j3
  have hx:=hi2 ts[i] (List.getElem_mem hil) S3 j2
  have hax:=hal2 ts[i] (List.getElem_mem hil)
  have hgx:=hgl ts[i] S3
  clear hi1
  cases hc2:thR nl g.rules[r].left r (g.rules[r].right.drop (at_+1)) h right (l++[asF ts[i]]) S3 with
  | error e2 =>
   rw[hc2] at j3
   cases j3
  | ok S4 =>
   rw[hc2] at j3 hx
   replace hx:ACalls _ _ _ _ _ _:=hx
   have hS4:=hgx S4 hc2 j2
   clear hi2 hal2 hgl hgx
   simp only[thH,thHr,thBx] at hx ⊢
   refine VA ?_
   refine Zcs TY (by simp) rfl Zaf rfl rfl rfl rfl rfl rfl rfl ?_
   refine VA ?_
   refine Zab [] (hA:=hax) (hr:=?_)
   refine VA ?_
   refine Zb8 TY rfl rfl Zaf rfl rfl rfl (ArgIs.own rfl rfl) (.inr ⟨⟨_,rfl⟩,.inr (by simp)⟩) rfl rfl rfl rfl rfl rfl rfl rfl (by simp;omega) (by simp;omega) ?_
   refine VA ?_
   refine Zab [] (hA:=hx) (hr:=?_)
   refine VA ?_
   exact Zae (i+1,S4) (a:=⟨hil,hS4,j3⟩) (b:=by dsimp only;omega)
end
end Go.Proofs.YtbpmepgnjanhnaaGreat
