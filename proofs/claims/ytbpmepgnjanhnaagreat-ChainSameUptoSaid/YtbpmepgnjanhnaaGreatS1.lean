import Derived.WalkKit
import Derived.ProofKit
import Derived.Laws.AppendOwnNone
import Derived.Deep.MidRow
import Derived.OrdersHeld
import Derived.Test.YtbpmepgnjanhnaaGreatWo
set_option linter.unusedVariables false
set_option linter.unusedSimpArgs false
set_option linter.unusedSectionVars false
namespace Go.Proofs.YtbpmepgnjanhnaaGreat
open Go.RowKit
structure Ext (S:Nat→Prop) (w w':World):Prop where
 os:w'.os=w.os
 tape:w'.tape=w.tape
 output:w'.output=w.output
 size:w.heap.size≤w'.heap.size
 block:∀ k,k < w.heap.size→¬ S k→w'.heap[k]? = w.heap[k]?
 drawn:w.drawn≤w'.drawn
def NoB:Nat→Prop:=fun _=>False
namespace Ext
variable {S T:Nat→Prop} {a b c w w':World}
theorem refl (S:Nat→Prop) (w:World):Ext S w w:=⟨rfl,rfl,rfl,Hg _,fun _ _ _=>rfl,Hg _⟩
theorem trans (h:Ext S a b) (k:Ext T b c) (hT:∀ x,T x→x < a.heap.size→S x):Ext S a c :=
 ⟨k.os.trans h.os,k.tape.trans h.tape,k.output.trans h.output,Hq h.size k.size,
  fun i hi hn=>(k.block i (Gm hi h.size) (fun hx=>hn (hT i hx hi))).trans (h.block i hi hn),Hq h.drawn k.drawn⟩
theorem mono (h:Ext S a b) (hs:∀ x,S x→T x):Ext T a b:=⟨h.os,h.tape,h.output,h.size,fun i hi hn=>h.block i hi (fun hx=>hn (hs i hx)),h.drawn⟩
theorem drew (h:Ext S a w):Ext S a w.drew:=⟨h.os,h.tape,h.output,h.size,h.block,Nat.le_succ_of_le h.drawn⟩
theorem alloc (h:Ext S a w) (o:Obj):Ext S a (w.alloc o) :=
 ⟨h.os,h.tape,h.output,by have:=h.size;simp;omega,fun k hk hn=>(Below.heap_alloc w o k (by have:=h.size;omega)).trans (h.block k hk hn),h.drawn⟩
theorem new (w:World) (o:Obj):Ext S w (w.alloc o):=(Ext.refl S w).alloc o
theorem setRow (w:World) (g:Nat) (cs:Array Value) (hg:S g):Ext S w (w.setRow g cs) :=
 ⟨rfl,rfl,rfl,by simp,fun k _ hk=>setRow_other w g k _ (fun h=>hk (by subst h;exact hg)),Hg _⟩
theorem cell (h:Ext S w w') {p:Addr} (hp:p.block < w.heap.size) (hn:¬ S p.block):w'.cell? p=w.cell? p:=World.cell?_of_block (w:=w) (h.block p.block hp hn)
end Ext
inductive D where
 | raw (v:Value)
 | sl (t:Bool) (sz:Nat) (es:List D)
 | agg (fs:List D)
mutual
def D.size:D→Nat
 | .raw _=>1
 | .sl _ _ _=>1
 | .agg fs=>D.sizes fs
def D.sizes:List D→Nat
 | []=>0
 | d::ds=>d.size+D.sizes ds
end
abbrev Bars:=Bool→Nat→Prop
mutual
def D.Rep (M:Bars) (w:World):D→List Value→Prop
 | .raw v,cs=>cs=[v]∧v.oneCell'=true
 | .agg fs,cs=>D.Reps M w fs cs
 | .sl t sz es,cs=>∃ a cap us,cs=[.slice a es.length cap]∧es.length≤cap∧cap≤maxLen∧(∀ x∈es,x.size=sz)∧D.Reps M w es us ∧
   (es≠[]→∃ b off,a=some ⟨b,off,none⟩∧¬ M t b∧b < w.heap.size∧∀ j,j < us.length→w.cell? ⟨b,off+j,none⟩=us[j]?)
def D.Reps (M:Bars) (w:World):List D→List Value→Prop
 | [],cs=>cs=[]
 | d::ds,cs=>∃ c r,cs=c++r∧D.Rep M w d c∧D.Reps M w ds r
end
mutual
theorem D.Rep.length {M:Bars} {w:World}:∀ {d:D} {cs:List Value},d.Rep M w cs→cs.length=d.size
 | .raw _,_,h=>by simp only[D.Rep] at h;rw[h.1];rfl
 | .agg fs,_,h=>by simp only[D.Rep] at h;exact D.Reps.length h
 | .sl _ _ _,_,h=>by simp only[D.Rep] at h;obtain⟨a,cap,us,rfl,_⟩:=h;rfl
theorem D.Reps.length {M:Bars} {w:World}:∀ {ds:List D} {cs:List Value},D.Reps M w ds cs→cs.length=D.sizes ds
 | [],_,h=>by simp only[D.Reps] at h;subst h;rfl
 | d::ds,_,h=>by
  simp only[D.Reps] at h;obtain⟨c,r,rfl,h1,h2⟩:=h;simp only[Hk,D.sizes];rw[D.Rep.length h1,D.Reps.length h2]
end
theorem D.sizes_eq {sz:Nat}:∀ {xs:List D},(∀ x∈xs,x.size=sz)→D.sizes xs=xs.length * sz
 | [],_=>by simp[D.sizes]
 | x::xs,h=>by
  simp only[D.sizes,Hl];rw[D.sizes_eq (xs:=xs) (fun y hy=>h y (by simp[hy])),h x (by simp),Gb];omega
mutual
theorem D.Rep.one {M:Bars} {w:World}:∀ {d:D} {cs:List Value},d.Rep M w cs→∀ u∈cs,u.oneCell'=true
 | .raw _,_,h=>by simp only[D.Rep] at h;obtain⟨rfl,h⟩:=h;simpa using h
 | .agg fs,_,h=>by simp only[D.Rep] at h;exact D.Reps.one h
 | .sl _ _ _,_,h=>by simp only[D.Rep] at h;obtain⟨a,cap,us,rfl,_⟩:=h;simp[Value.oneCell']
theorem D.Reps.one {M:Bars} {w:World}:∀ {ds:List D} {cs:List Value},D.Reps M w ds cs→∀ u∈cs,u.oneCell'=true
 | [],_,h=>by simp only[D.Reps] at h;subst h;simp
 | d::ds,_,h=>by
  simp only[D.Reps] at h;obtain⟨c,r,rfl,h1,h2⟩:=h;intro u hu;rcases List.mem_append.1 hu with hu|hu
  ·exact D.Rep.one h1 u hu
  ·exact D.Reps.one h2 u hu
end
def Carry (M M':Bars) (w w':World):Prop:=(∀ t k,k < w.heap.size→¬ M t k→w'.heap[k]? = w.heap[k]? ∧ ¬ M' t k)∧w.heap.size≤w'.heap.size
theorem Carry.refl (M:Bars) (w:World):Carry M M w w:=⟨fun _ _ _ h=>⟨rfl,h⟩,Hg _⟩
mutual
theorem D.Rep.carry {M M':Bars} {w w':World} (hb:Carry M M' w w'):∀ {d:D} {cs:List Value},d.Rep M w cs→d.Rep M' w' cs
 | .raw _,_,h=>by simp only[D.Rep] at h ⊢;exact h
 | .agg fs,_,h=>by simp only[D.Rep] at h ⊢;exact D.Reps.carry hb h
 | .sl t _ es,_,h=>by
  simp only[D.Rep] at h ⊢;obtain⟨a,cap,us,rfl,h1,h2,h3,h4,h5⟩:=h;refine⟨a,cap,us,rfl,h1,h2,h3,D.Reps.carry hb h4,fun hne=>?_⟩;obtain⟨b,off,ha,hm,hlt,hc⟩:=h5 hne;exact⟨b,off,ha,(hb.1 t b hlt hm).2,Gm hlt hb.2,fun j hj=>(World.cell?_of_block (w:=w) (w':=w') (a:=⟨b,off+j,none⟩) (hb.1 t b hlt hm).1).trans (hc j hj)⟩
theorem D.Reps.carry {M M':Bars} {w w':World} (hb:Carry M M' w w'):∀ {ds:List D} {cs:List Value},D.Reps M w ds cs→D.Reps M' w' ds cs
 | [],_,h=>by simp only[D.Reps] at h ⊢;exact h
 | d::ds,_,h=>by
  simp only[D.Reps] at h ⊢;obtain⟨c,r,rfl,h1,h2⟩:=h;exact⟨c,r,rfl,D.Rep.carry hb h1,D.Reps.carry hb h2⟩
end
theorem D.Reps.append {M:Bars} {w:World}:∀ {xs ys:List D} {cs es:List Value},D.Reps M w xs cs→D.Reps M w ys es→D.Reps M w (xs++ys) (cs++es)
 | [],_,_,_,h,k=>by simp only[D.Reps] at h;subst h;simpa using k
 | d::ds,_,_,_,h,k=>by
  simp only[D.Reps,Hv] at h ⊢;obtain⟨c,r,rfl,h1,h2⟩:=h;exact⟨c,r++_,by simp,h1,h2.append k⟩
theorem D.Reps.split {M:Bars} {w:World}:∀ {xs ys:List D} {cs:List Value},D.Reps M w (xs++ys) cs→D.Reps M w xs (cs.take (D.sizes xs))∧D.Reps M w ys (cs.drop (D.sizes xs))
 | [],_,_,h=>by simp[D.Reps,D.sizes];simpa using h
 | d::ds,ys,cs,h=>by
  simp only[D.Reps,Hv] at h;obtain⟨c,r,rfl,h1,h2⟩:=h;obtain⟨k1,k2⟩:=D.Reps.split h2;have hc:=h1.length;simp only[D.Reps,D.sizes];refine⟨⟨c,r.take (D.sizes ds),?_,h1,k1⟩,?_⟩
  ·rw[List.take_append,H6 (by omega)];congr 2;omega
  ·have e:(c++r).drop (d.size+D.sizes ds)=r.drop (D.sizes ds):=by
    rw[List.drop_append,HL (by omega)];simp;congr 1;omega
   rw[e];exact k2
theorem D.Reps.single {M:Bars} {w:World} {d:D} {cs:List Value}:D.Reps M w [d] cs↔d.Rep M w cs:=by
 simp only[D.Reps];constructor
 ·rintro⟨c,r,rfl,h,rfl⟩;simpa using h
 ·intro h;exact⟨cs,[],by simp,h,rfl⟩
theorem D.Reps.get {M:Bars} {w:World} {sz:Nat} {xs:List D} {us:List Value} (h:D.Reps M w xs us) (hs:∀ x∈xs,x.size=sz) {i:Nat} {x:D} (hi:xs[i]? = some x) :
  x.Rep M w ((us.drop (i * sz)).take sz):=by
 obtain⟨hl,rfl⟩:=List.getElem?_eq_some_iff.1 hi;have e:xs=xs.take i++([xs[i]]++xs.drop (i+1)):=by simp
 rw[e] at h;have hz:D.sizes (xs.take i)=i * sz:=by
  rw[D.sizes_eq (sz:=sz) (fun y hy=>hs y (Gf hy)),Hs,Gs (by omega)]
 have hz1:D.sizes [xs[i]]=sz:=by simp[D.sizes,hs xs[i] (He hl)]
 have h2:=(D.Reps.split (D.Reps.split h).2).1;rw[hz,hz1] at h2;exact D.Reps.single.1 h2
theorem D.Reps.set {M:Bars} {w:World} {sz:Nat} {xs:List D} {us:List Value} (h:D.Reps M w xs us) (hs:∀ x∈xs,x.size=sz) {i:Nat} (hi:i < xs.length) {x:D} {c:List Value} (hx:x.Rep M w c) :
  D.Reps M w (xs.set i x) (us.take (i * sz)++c++us.drop (i * sz+sz)):=by
 have e:xs=xs.take i++([xs[i]]++xs.drop (i+1)):=by simp
 have hz:D.sizes (xs.take i)=i * sz:=by
  rw[D.sizes_eq (sz:=sz) (fun y hy=>hs y (Gf hy)),Hs,Gs (by omega)]
 have hz1:D.sizes [xs[i]]=sz:=by simp[D.sizes,hs xs[i] (He hi)]
 have h':=h;rw[e] at h';have h1:=(D.Reps.split h').1;have h2:=(D.Reps.split (D.Reps.split h').2).2;rw[hz] at h1 h2;rw[hz1,List.drop_drop] at h2;rw[List.set_eq_take_append_cons_drop,Hb hi];have:=(h1.append (D.Reps.single.2 hx)).append h2;simpa using this
def D.at:List D→Nat→Option D
 | [],_=>none
 | .agg _::_,_=>none
 | d::_,0=>some d
 | _::ds,i+1=>D.at ds i
theorem D.Reps.at {M:Bars} {w:World}:∀ {ds:List D} {us:List Value} {i:Nat} {d:D},D.Reps M w ds us→D.at ds i=some d→∃ u,us[i]? = some u∧d.Rep M w [u]
 | [],_,_,_,_,h=>by simp[D.at] at h
 | .agg _::_,_,i,_,_,h=>by cases i <;> simp[D.at] at h
 | .raw v::ds,us,i,d,h,k=>by
  simp only[D.Reps] at h;obtain⟨c,r,rfl,h1,h2⟩:=h;have h1':=h1;simp only[D.Rep] at h1;obtain⟨rfl,_⟩:=h1
  match i with
  | 0=>simp only[D.at,Hx] at k;subst k;exact⟨v,by simp,h1'⟩
  | i+1 =>
   simp only[D.at] at k;obtain⟨u,g1,g2⟩:=D.Reps.at h2 k;exact⟨u,by simpa using g1,g2⟩
 | .sl t sz es::ds,us,i,d,h,k=>by
  simp only[D.Reps] at h;obtain⟨c,r,rfl,h1,h2⟩:=h;have h1':=h1;have hl:=h1.length;simp only[D.size] at hl
  match c,hl with
  | [v],_ =>
   match i with
   | 0=>simp only[D.at,Hx] at k;subst k;exact⟨v,by simp,h1'⟩
   | i+1 =>
    simp only[D.at] at k;obtain⟨u,g1,g2⟩:=D.Reps.at h2 k;exact⟨u,by simpa using g1,g2⟩
mutual
def D.view:D→D
 | .raw v=>.raw v
 | .sl _ sz es=>.sl true sz (D.views es)
 | .agg fs=>.agg (D.views fs)
def D.views:List D→List D
 | []=>[]
 | d::ds=>d.view::D.views ds
end
theorem D.views_map:∀ (ds:List D),D.views ds=ds.map D.view
 | []=>rfl
 | d::ds=>by simp[D.views,D.views_map ds]
mutual
theorem D.view_size:∀ (d:D),d.view.size=d.size
 | .raw _=>rfl
 | .sl _ _ _=>rfl
 | .agg fs=>by simp only[D.view,D.size];exact D.views_sizes fs
theorem D.views_sizes:∀ (ds:List D),D.sizes (D.views ds)=D.sizes ds
 | []=>rfl
 | d::ds=>by simp only[D.views,D.sizes,D.view_size d,D.views_sizes ds]
end
mutual
theorem D.Rep.view {M:Bars} {w:World} (hM:∀ k,M true k→M false k):∀ {d:D} {cs:List Value},d.Rep M w cs→d.view.Rep M w cs
 | .raw _,_,h=>by simp only[D.view];exact h
 | .agg fs,_,h=>by simp only[D.view,D.Rep] at h ⊢;exact D.Reps.view hM h
 | .sl t sz es,_,h=>by
  simp only[D.view,D.Rep] at h ⊢;obtain⟨a,cap,us,rfl,h1,h2,h3,h4,h5⟩:=h;have hl:(D.views es).length=es.length:=by simp[D.views_map]
  rw[hl];refine⟨a,cap,us,rfl,h1,h2,?_,D.Reps.view hM h4,fun hne=>?_⟩
  ·intro x hx;rw[D.views_map] at hx;obtain⟨y,hy,rfl⟩:=List.mem_map.1 hx;rw[D.view_size];exact h3 y hy
  ·obtain⟨b,off,ha,hm,hlt,hc⟩:=h5 (by rintro rfl;exact hne rfl);refine⟨b,off,ha,fun hx=>hm ?_,hlt,hc⟩;cases t
   ·exact hM b hx
   ·exact hx
theorem D.Reps.view {M:Bars} {w:World} (hM:∀ k,M true k→M false k):∀ {ds:List D} {cs:List Value},D.Reps M w ds cs→D.Reps M w (D.views ds) cs
 | [],_,h=>by simp only[D.views];exact h
 | d::ds,_,h=>by
  simp only[D.views,D.Reps] at h ⊢;obtain⟨c,r,rfl,h1,h2⟩:=h;exact⟨c,r,rfl,D.Rep.view hM h1,D.Reps.view hM h2⟩
end
def D.RepV (M:Bars) (w:World):D→Value→Prop
 | .agg fs,u=>∃ us:List Value,u=.agg us.toArray∧D.Reps M w fs us
 | x,u=>D.Rep M w x [u]
theorem D.RepV.carry {M M':Bars} {w w':World} (hb:Carry M M' w w') {d:D} {u:Value} (h:d.RepV M w u):d.RepV M' w' u:=by
 cases d with
 | agg fs=>obtain⟨us,rfl,h⟩:=h;exact⟨us,rfl,h.carry hb⟩
 | raw v=>exact D.Rep.carry hb h
 | sl t sz es=>exact D.Rep.carry hb h
theorem D.RepV.cells {M:Bars} {w:World} {d:D} {u:Value} (h:d.RepV M w u):d.Rep M w u.cells.toList:=by
 cases d with
 | agg fs=>obtain⟨us,rfl,h⟩:=h;simpa[Value.cells,D.Rep] using h
 | raw v =>
  have h':=h;simp only[D.RepV,D.Rep,Hz,HA] at h';obtain⟨rfl,h1⟩:=h';have:u.cells=#[u]:=by cases u <;> simp_all [Value.cells,Value.oneCell']
  rw[this];exact h
 | sl t sz es =>
  have h':=h;simp only[D.RepV,D.Rep] at h';obtain⟨a,cap,us,h1,_⟩:=h';simp only[Hz,HA] at h1;subst h1;exact h
end Go.Proofs.YtbpmepgnjanhnaaGreat
namespace Go.Proofs.YtbpmepgnjanhnaaGreat
open Go.RowKit
inductive V where
 | d (x:D)
 | full (t:Bool) (sz:Nat) (es:List D)
 | own (k n:Nat)
 | ptr (k off:Nat)
 | eptr (t:Bool) (sz:Nat) (es:List D) (i off:Nat)
 | optr (k n i off:Nat)
 | fn (f:Fn) (first caps:List V)
 | agg (cs:List V)
 | tup (vs:List V)
 | mapv (k:Nat)
 | opn (p:Value→Prop)
 | junk
inductive Tr where
 | row (e:TypeId) (sz:Nat) (xs:List D)
 | node (e:TypeId) (ts:List Tr)
inductive NE where
 | tr (t:Tr)
 | ref (k n:Nat)
def NE.keys:NE→List Nat
 | .tr _=>[]
 | .ref k _=>[k]
inductive Ob where
 | box (ty:TypeId) (cs:List V)
 | row (e:TypeId) (sz:Nat) (xs:List D)
 | froz (sz:Nat) (xs:List D)
 | dead (n:Nat)
 | nest (e:TypeId) (A:List Tr) (r:List (Nat×Nat)) (B:List Tr)
 | mp (p:List ((Int×Int×Int)×Int)→Prop)
def nes (A:List Tr) (r:List (Nat×Nat)) (B:List Tr):List NE:=A.map .tr++(r.map (fun p=>.ref p.1 p.2)++B.map .tr)
theorem ZjX (A:List Tr) (r:List (Nat×Nat)) (B:List Tr):(nes A r B).flatMap NE.keys=r.map Prod.fst:=by
 have h1:∀ l:List Tr,(l.map NE.tr).flatMap NE.keys=[]:=fun l=>by induction l with|nil=>rfl|cons a l ih=>simp[NE.keys]
 have h2:∀ l:List (Nat×Nat),(l.map (fun p=>NE.ref p.1 p.2)).flatMap NE.keys=l.map Prod.fst:=fun l=>by induction l with|nil=>rfl|cons a l ih=>simp only[Hm,HP,ih,NE.keys];rfl
 simp only[nes,JL,h1,h2,H3,Ht]
abbrev Fr:=List (Nat×V)
abbrev Hp:=List (Nat×Ob)
def fget:Fr→Nat→V
 | [],_=>.junk
 | (j,v)::r,i=>match Nat.beq j i with
  | true=>v
  | false=>fget r i
def Ah:Hp→Nat→Option Ob
 | [],_=>none
 | (j,o)::r,i=>match Nat.beq j i with
  | true=>some o
  | false=>Ah r i
theorem Zbc (r:Fr) (i:Nat) (v:V):fget ((i,v)::r) i=v:=by simp[fget,Gt]
theorem Za8 (r:Fr) {i j:Nat} (v:V) (h:j≠i):fget ((j,v)::r) i=fget r i:=by
 have:Nat.beq j i=false:=by cases e:Nat.beq j i with|false=>rfl|true=>exact absurd (HQ e) h
 simp[fget,this]
theorem Zai (r:Hp) (i:Nat) (v:Ob):Ah ((i,v)::r) i=some v:=by simp[Ah,Gt]
theorem Zar (r:Hp) {i j:Nat} (v:Ob) (h:j≠i):Ah ((j,v)::r) i=Ah r i:=by
 have:Nat.beq j i=false:=by cases e:Nat.beq j i with|false=>rfl|true=>exact absurd (HQ e) h
 simp[Ah,this]
structure Env where
 blk:Nat→Nat
 row:Nat→Value
 fp:Nat→List Nat
def verAny (h:Hp) (k n:Nat):Prop:=(∃ e sz xs,Ah h k=some (.row e sz xs)∧xs.length=n)∨(∃ sz xs,Ah h k=some (.froz sz xs)∧xs.length=n)∨Ah h k=some (.dead n)∨(∃ e A r B,Ah h k=some (.nest e A r B)∧A.length+r.length+B.length=n)
def verRow (h:Hp) (k sz n:Nat):Prop:=(∃ e xs,Ah h k=some (.row e sz xs)∧xs.length=n)∨(∃ e A r B,Ah h k=some (.nest e A r B)∧sz=1∧A.length+r.length+B.length=n)
mutual
def V.keys:V→List Nat
 | .d _|.full ..|.eptr ..|.opn _|.junk=>[]
 | .own k _|.ptr k _|.optr k _ _ _|.mapv k=>[k]
 | .fn _ f c=>V.keyss f++V.keyss c
 | .agg cs=>V.keyss cs
 | .tup vs=>V.keyss vs
def V.keyss:List V→List Nat
 | []=>[]
 | v::r=>v.keys++V.keyss r
end
def Ob.keys:Ob→List Nat
 | .box _ cs=>V.keyss cs
 | .nest _ _ r _=>r.map Prod.fst
 | _=>[]
section
variable (E:Env) (h:Hp) (M:Bars) (w:World)
mutual
def V.Rep:V→Value→Prop
 | .d x,u=>x.RepV M w u
 | .full t sz es,u=>D.Rep M w (.sl t sz es) [u]∧∃ a,u=.slice a es.length es.length
 | .own k n,u=>∃ m,verAny h k m∧n≤m∧u.oneCell'=true∧(n=m→u=E.row k)
 | .ptr k off,u=>u=.pointer (some ⟨E.blk k,off,none⟩)
 | .eptr t sz es i off,u=>∃ b o us,u=.pointer (some ⟨b,o+(i * sz+off),none⟩)∧i < es.length∧(∀ x∈es,x.size=sz)∧D.Reps M w es us∧¬ M t b∧b < w.heap.size∧∀ j,j < us.length→w.cell? ⟨b,o+j,none⟩=us[j]?
 | .optr k n i off,u=>∃ m,verAny h k m∧n≤m∧u.oneCell'=true∧(n=m→∀ sz,verRow h k sz n→∃ b o cap,E.row k=.slice (some ⟨b,o,none⟩) n cap∧u=.pointer (some ⟨b,o+(i * sz+off),none⟩))
 | .fn f fs cs,u=>∃ a c:List Value,u=.func f a.toArray c.toArray∧V.Reps fs a∧V.Reps cs c
 | .agg cs,u=>∃ us:List Value,u=.agg us.toArray∧V.Reps cs us∧∀ x∈us,x.oneCell'=true
 | .tup vs,u=>∃ us:List Value,u=.tuple us.toArray∧V.Reps vs us
 | .mapv k,u=>u=.map (some (E.blk k))
 | .opn p,u=>p u
 | .junk,_=>True
def V.Reps:List V→List Value→Prop
 | [],us=>us=[]
 | v::r,us=>∃ x y,us=x::y∧V.Rep v x∧V.Reps r y
end
end
theorem Za9 {h:Hp} {k m m':Nat} (h1:verAny h k m) (h2:verAny h k m'):m=m':=by
 rcases h1 with ⟨e,sz,xs,h1,rfl⟩|⟨sz,xs,h1,rfl⟩|h1|⟨e,A,r,B,h1,rfl⟩ <;> rcases h2 with ⟨e',sz',xs',h2,rfl⟩|⟨sz',xs',h2,rfl⟩|h2|⟨e',A',r',B',h2,rfl⟩ <;> (rw[h1] at h2;cases h2) <;> rfl
theorem verRow.any {h:Hp} {k sz m:Nat} (h1:verRow h k sz m):verAny h k m:=by
 rcases h1 with ⟨e,xs,h1,h2⟩|⟨e,A,r,B,h1,_,h2⟩
 ·exact .inl ⟨e,sz,xs,h1,h2⟩
 ·exact .inr (.inr (.inr ⟨e,A,r,B,h1,h2⟩))
structure Trans (E:Env) (h:Hp) (M:Bars) (w:World) (E':Env) (h':Hp) (M':Bars) (w':World):Prop where
 blk:∀ k,(Ah h k).isSome=true→(Ah h' k).isSome=true→E'.blk k=E.blk k
 ver:∀ k,(Ah h' k).isSome=true→∀ m,verAny h k m→∃ m',verAny h' k m'∧m≤m'∧(m=m'→E'.row k=E.row k)
 verR:∀ k,(Ah h k).isSome=true→∀ sz n,verRow h' k sz n→∃ m,verRow h k sz m
 carry:Carry M M' w w'
mutual
theorem V.Rep.move {E:Env} {h:Hp} {M:Bars} {w:World} {E':Env} {h':Hp} {M':Bars} {w':World} (T:Trans E h M w E' h' M' w') :
  ∀ {v:V} {u:Value},(∀ k∈v.keys,(Ah h k).isSome=true)→(∀ k∈v.keys,(Ah h' k).isSome=true)→V.Rep E h M w v u→V.Rep E' h' M' w' v u
 | .d x,_,_,_,r=>by simp only[V.Rep] at r ⊢;exact r.carry T.carry
 | .full t sz es,_,_,_,r=>by simp only[V.Rep] at r ⊢;exact⟨r.1.carry T.carry,r.2⟩
 | .own k n,_,_,hk',r=>by
  simp only[V.Rep] at r ⊢;obtain⟨m,h1,h2,h0,h3⟩:=r;obtain⟨m',g1,g2,g3⟩:=T.ver k (hk' k (by simp[V.keys])) m h1;exact⟨m',g1,by omega,h0,fun e=>by rw[g3 (by omega)];exact h3 (by omega)⟩
 | .ptr k off,_,hk,hk',r=>by simp only[V.Rep] at r ⊢;rw[T.blk k (hk k (by simp[V.keys])) (hk' k (by simp[V.keys]))];exact r
 | .eptr t sz es i off,_,_,_,r=>by
  simp only[V.Rep] at r ⊢;obtain⟨b,o,us,h1,h2,h3,h4,h5,h6,h7⟩:=r;exact⟨b,o,us,h1,h2,h3,h4.carry T.carry,(T.carry.1 t b h6 h5).2,Gm h6 T.carry.2,fun j hj=>(World.cell?_of_block (w:=w) (w':=w') (a:=⟨b,o+j,none⟩) (T.carry.1 t b h6 h5).1).trans (h7 j hj)⟩
 | .optr k n i off,_,hk,hk',r=>by
  simp only[V.Rep] at r ⊢;obtain⟨m,h1,h2,h0,h3⟩:=r;obtain⟨m',g1,g2,g3⟩:=T.ver k (hk' k (by simp[V.keys])) m h1;refine⟨m',g1,by omega,h0,fun e sz hv=>?_⟩;obtain⟨m2,k2⟩:=T.verR k (hk k (by simp[V.keys])) sz n hv;have e2:=Za9 k2.any h1;rw[g3 (by omega)];exact h3 (by omega) sz (by rw[show n=m2 by omega];exact k2)
 | .fn f fs cs,_,hk,hk',r=>by
  simp only[V.Rep] at r ⊢;obtain⟨a,c,h1,h2,h3⟩:=r;exact⟨a,c,h1,V.Reps.move T (fun k hx=>hk k (by simp[V.keys,hx])) (fun k hx=>hk' k (by simp[V.keys,hx])) h2,V.Reps.move T (fun k hx=>hk k (by simp[V.keys,hx])) (fun k hx=>hk' k (by simp[V.keys,hx])) h3⟩
 | .agg cs,_,hk,hk',r=>by
  simp only[V.Rep] at r ⊢;obtain⟨us,h1,h2,h3⟩:=r;exact⟨us,h1,V.Reps.move T (fun k hx=>hk k (by simpa[V.keys] using hx)) (fun k hx=>hk' k (by simpa[V.keys] using hx)) h2,h3⟩
 | .tup cs,_,hk,hk',r=>by
  simp only[V.Rep] at r ⊢;obtain⟨us,h1,h2⟩:=r;exact⟨us,h1,V.Reps.move T (fun k hx=>hk k (by simpa[V.keys] using hx)) (fun k hx=>hk' k (by simpa[V.keys] using hx)) h2⟩
 | .mapv k,_,hk,hk',r=>by simp only[V.Rep] at r ⊢;rw[T.blk k (hk k (by simp[V.keys])) (hk' k (by simp[V.keys]))];exact r
 | .opn _,_,_,_,r=>by simp only[V.Rep] at r ⊢;exact r
 | .junk,_,_,_,_=>by simp only[V.Rep]
theorem V.Reps.move {E:Env} {h:Hp} {M:Bars} {w:World} {E':Env} {h':Hp} {M':Bars} {w':World} (T:Trans E h M w E' h' M' w') :
  ∀ {vs:List V} {us:List Value},(∀ k∈V.keyss vs,(Ah h k).isSome=true)→(∀ k∈V.keyss vs,(Ah h' k).isSome=true)→V.Reps E h M w vs us→V.Reps E' h' M' w' vs us
 | [],_,_,_,r=>by simp only[V.Reps] at r ⊢;exact r
 | v::vs,_,hk,hk',r=>by
  simp only[V.Reps] at r ⊢;obtain⟨x,y,h1,h2,h3⟩:=r;exact⟨x,y,h1,V.Rep.move T (fun k hx=>hk k (by simp[V.keyss,hx])) (fun k hx=>hk' k (by simp[V.keyss,hx])) h2,V.Reps.move T (fun k hx=>hk k (by simp[V.keyss,hx])) (fun k hx=>hk' k (by simp[V.keyss,hx])) h3⟩
end
section
variable {E:Env} {h:Hp} {M:Bars} {w:World}
theorem V.Reps.length:∀ {vs:List V} {us:List Value},V.Reps E h M w vs us→us.length=vs.length
 | [],_,r=>by simp only[V.Reps] at r;subst r;rfl
 | v::vs,_,r=>by
  simp only[V.Reps] at r;obtain⟨x,y,rfl,_,h3⟩:=r;simp[V.Reps.length h3]
theorem V.Reps.get:∀ {vs:List V} {us:List Value} {i:Nat} {v:V},V.Reps E h M w vs us→vs[i]? = some v→∃ u,us[i]? = some u∧V.Rep E h M w v u
 | [],_,_,_,_,k=>by simp at k
 | v::vs,_,0,x,r,k=>by
  simp only[V.Reps] at r;obtain⟨u,y,rfl,h2,_⟩:=r;simp only[G3,Hx] at k;subst k;exact⟨u,by simp,h2⟩
 | v::vs,_,i+1,x,r,k=>by
  simp only[V.Reps] at r;obtain⟨u,y,rfl,_,h3⟩:=r;obtain⟨u',g1,g2⟩:=V.Reps.get h3 (by simpa using k);exact⟨u',by simpa using g1,g2⟩
theorem V.Reps.of_get:∀ {vs:List V} {us:List Value},us.length=vs.length→(∀ (i:Nat) (v:V) (u:Value),vs[i]? = some v→us[i]? = some u→V.Rep E h M w v u)→V.Reps E h M w vs us
 | [],us,hl,_=>by simp only[V.Reps];simpa using hl
 | v::vs,[],hl,_=>by simp at hl
 | v::vs,u::us,hl,k=>by
  simp only[V.Reps];exact⟨u,us,rfl,k 0 v u (by simp) (by simp),V.Reps.of_get (by simpa using hl) (fun i v u h1 h2=>k (i+1) v u (by simpa using h1) (by simpa using h2))⟩
theorem V.Reps.set {vs:List V} {us:List Value} (r:V.Reps E h M w vs us) (i:Nat) {v:V} {u:Value} (hv:V.Rep E h M w v u):V.Reps E h M w (vs.set i v) (us.set i u):=by
 have hl:=r.length;refine V.Reps.of_get (by simp[hl]) fun j x y h1 h2=>?_
 rw[JA] at h1 h2;split at h1
 ·rename_i e;subst e;rw[Hb rfl] at h2;split at h1
  ·rename_i hlt;rw[Hb (by omega)] at h2;simp only[Hx] at h1 h2;subst h1;subst h2;exact hv
  ·cases h1
 ·rename_i e;rw[Ha e] at h2;obtain⟨u',g1,g2⟩:=r.get h1;rw[g1] at h2;simp only[Hx] at h2;subst h2;exact g2
theorem V.Reps.append:∀ {vs vs':List V} {us us':List Value},V.Reps E h M w vs us→V.Reps E h M w vs' us'→V.Reps E h M w (vs++vs') (us++us')
 | [],_,_,_,r,k=>by simp only[V.Reps] at r;subst r;simpa using k
 | v::vs,_,_,_,r,k=>by
  simp only[V.Reps,Hv] at r ⊢;obtain⟨x,y,rfl,h2,h3⟩:=r;exact⟨x,y++_,by simp,h2,V.Reps.append h3 k⟩
theorem V.Reps.take {vs:List V} {us:List Value} (r:V.Reps E h M w vs us) (n:Nat):V.Reps E h M w (vs.take n) (us.take n):=by
 refine V.Reps.of_get (by simp[r.length]) fun i v u h1 h2=>?_
 rw[GC] at h1 h2;split at h1
 ·rename_i hl;rw[Hb hl] at h2;obtain⟨u',g1,g2⟩:=r.get h1;rw[g1] at h2;cases h2;exact g2
 ·cases h1
theorem V.Reps.drop {vs:List V} {us:List Value} (r:V.Reps E h M w vs us) (n:Nat):V.Reps E h M w (vs.drop n) (us.drop n):=by
 refine V.Reps.of_get (by simp[r.length]) fun i v u h1 h2=>?_
 rw[Gy] at h1 h2;obtain⟨u',g1,g2⟩:=r.get h1;rw[g1] at h2;cases h2;exact g2
end
theorem V.keyss_mem:∀ {vs:List V} {k:Nat},k∈V.keyss vs↔∃ v∈vs,k∈v.keys
 | [],k=>by simp[V.keyss]
 | v::vs,k=>by simp[V.keyss,V.keyss_mem (vs:=vs)]
def obOf:Value→Option Nat
 | .slice (some a) _ cap=>if cap=0 then none else some a.block
 | _=>none
def RowAt (M:Bars) (w:World) (e sz:Nat) (v:Value) (xs:List D):Prop :=
 (∀ x∈xs,x.size=sz)∧((∃ a,v=.slice a 0 0∧xs=[]) ∨
  ∃ g off cap cur,v=.slice (some ⟨g,off,none⟩) xs.length cap∧0 < cap∧w.heap[g]? = some (.cells cur e (0,0))∧xs.length≤cap∧cap≤maxLen ∧
   cur.size=off+cap * sz∧D.Reps M w xs ((cur.toList.drop off).take (xs.length * sz)))
theorem RowAt.shape {M:Bars} {w:World} {e sz:Nat} {v:Value} {xs:List D} (h:RowAt M w e sz v xs):∃ a cap,v=.slice a xs.length cap∧xs.length≤cap∧cap≤maxLen:=by
 obtain⟨_,⟨a,rfl,rfl⟩|⟨g,off,cap,cur,rfl,_,_,h1,h2,_⟩⟩:=h
 ·exact⟨a,0,rfl,Hg _,by simp[maxLen]⟩
 ·exact⟨_,cap,rfl,h1,h2⟩
theorem RowAt.move {M M':Bars} {w w':World} {e sz:Nat} {v:Value} {xs:List D} (h:RowAt M w e sz v xs) (hb:Carry M M' w w') (hg:∀ b,obOf v=some b→w'.heap[b]? = w.heap[b]?):RowAt M' w' e sz v xs:=by
 obtain⟨h0,h|⟨g,off,cap,cur,rfl,h1,h2,h3,h4,h5,h6⟩⟩:=h
 ·exact⟨h0,.inl h⟩
 ·exact⟨h0,.inr ⟨g,off,cap,cur,rfl,h1,(hg g (by simp[obOf];omega)).trans h2,h3,h4,h5,h6.carry hb⟩⟩
theorem RowAt.cells {M:Bars} {w:World} {e sz:Nat} {v:Value} {xs:List D} (h:RowAt M w e sz v xs) (hne:xs≠[]) :
  ∃ g off cap us,v=.slice (some ⟨g,off,none⟩) xs.length cap∧obOf v=some g∧D.Reps M w xs us∧us.length=xs.length * sz∧g < w.heap.size∧∀ j,j < us.length→w.cell? ⟨g,off+j,none⟩=us[j]? := by
 obtain⟨h0,⟨a,_,rfl⟩|⟨g,off,cap,cur,rfl,h1,h2,h3,h4,h5,h6⟩⟩:=h
 ·exact absurd rfl hne
 ·have hl:=h6.length;rw[D.sizes_eq h0] at hl;refine⟨g,off,cap,_,rfl,by simp[obOf];omega,h6,hl,(Array.getElem?_eq_some_iff.1 h2).1,fun j hj=>?_⟩;rw[hl] at hj;simp only[World.cell?,h2];rw[GC,Hb hj,Gy];simp
mutual
def Tr.Rep (M:Bars) (w:World):Tr→List Nat→Value→Prop
 | .row e sz xs,f,u=>RowAt M w e sz u xs∧f=(obOf u).toList
 | .node e ts,f,u=>∃ us f',RowAt M w e 1 u (us.map D.raw)∧Tr.Reps M w ts f' us∧f=(obOf u).toList++f'
def Tr.Reps (M:Bars) (w:World):List Tr→List Nat→List Value→Prop
 | [],f,us=>f=[]∧us=[]
 | t::ts,f,us=>∃ f1 f2 u vs,f=f1++f2∧us=u::vs∧Tr.Rep M w t f1 u∧Tr.Reps M w ts f2 vs
end
mutual
theorem Tr.Rep.move {M M':Bars} {w w':World} (hb:Carry M M' w w'):∀ {t:Tr} {f:List Nat} {u:Value},(∀ b∈f,w'.heap[b]? = w.heap[b]?)→Tr.Rep M w t f u→Tr.Rep M' w' t f u
 | .row e sz xs,f,u,hf,r=>by
  simp only[Tr.Rep] at r ⊢;obtain⟨r1,rfl⟩:=r;exact⟨r1.move hb (fun b hb=>hf b (by simp[hb])),rfl⟩
 | .node e ts,f,u,hf,r=>by
  simp only[Tr.Rep] at r ⊢;obtain⟨us,f',r1,r2,rfl⟩:=r;exact⟨us,f',r1.move hb (fun b hb=>hf b (by simp[hb])),Tr.Reps.move hb (fun b hb=>hf b (by simp[hb])) r2,rfl⟩
theorem Tr.Reps.move {M M':Bars} {w w':World} (hb:Carry M M' w w'):∀ {ts:List Tr} {f:List Nat} {us:List Value},(∀ b∈f,w'.heap[b]? = w.heap[b]?)→Tr.Reps M w ts f us→Tr.Reps M' w' ts f us
 | [],_,_,_,r=>by simp only[Tr.Reps] at r ⊢;exact r
 | t::ts,_,_,hf,r=>by
  simp only[Tr.Reps] at r ⊢;obtain⟨f1,f2,u,vs,rfl,rfl,r1,r2⟩:=r;exact⟨f1,f2,u,vs,rfl,rfl,Tr.Rep.move hb (fun b hb=>hf b (by simp[hb])) r1,Tr.Reps.move hb (fun b hb=>hf b (by simp[hb])) r2⟩
end
theorem RowAt.lt {M:Bars} {w:World} {e sz:Nat} {v:Value} {xs:List D} (h:RowAt M w e sz v xs):∀ b,obOf v=some b→b < w.heap.size:=fun b hb=>by
 obtain⟨_,⟨a,h1,_⟩|⟨g,off,cap,cur,h1,h2,h3,_⟩⟩:=h
 ·rw[h1] at hb;cases a <;> simp[obOf] at hb
 ·rw[h1] at hb;simp only[obOf] at hb;rw[Ha (by omega)] at hb;simp only[Hx] at hb;subst hb;exact (Array.getElem?_eq_some_iff.1 h3).1
mutual
theorem Tr.Rep.lt {M:Bars} {w:World}:∀ {t:Tr} {f:List Nat} {u:Value},Tr.Rep M w t f u→∀ b∈f,b < w.heap.size
 | .row e sz xs,f,u,r=>by
  simp only[Tr.Rep] at r;obtain⟨r1,rfl⟩:=r;intro b hb;exact r1.lt b (by simpa using hb)
 | .node e ts,f,u,r=>by
  simp only[Tr.Rep] at r;obtain⟨us,f',r1,r2,rfl⟩:=r;intro b hb;rcases List.mem_append.1 hb with hb|hb
  ·exact r1.lt b (by simpa using hb)
  ·exact Tr.Reps.lt r2 b hb
theorem Tr.Reps.lt {M:Bars} {w:World}:∀ {ts:List Tr} {f:List Nat} {us:List Value},Tr.Reps M w ts f us→∀ b∈f,b < w.heap.size
 | [],_,_,r=>by simp only[Tr.Reps] at r;obtain⟨rfl,_⟩:=r;simp
 | t::ts,_,_,r=>by
  simp only[Tr.Reps] at r;obtain⟨f1,f2,u,vs,rfl,rfl,r1,r2⟩:=r;intro b hb;rcases List.mem_append.1 hb with hb|hb
  ·exact Tr.Rep.lt r1 b hb
  ·exact Tr.Reps.lt r2 b hb
end
section
variable (E:Env) (h:Hp) (M:Bars) (w:World)
def NE.Reps:List NE→List Nat→List Value→Prop
 | [],f,us=>f=[]∧us=[]
 | .tr t::xs,f,us=>∃ f1 f2 u vs,f=f1++f2∧us=u::vs∧Tr.Rep M w t f1 u∧NE.Reps xs f2 vs
 | .ref k n::xs,f,us=>∃ u vs,us=u::vs∧V.Rep E h M w (.own k n) u∧NE.Reps xs f vs
end
theorem NE.Reps.move {E:Env} {h:Hp} {M:Bars} {w:World} {E':Env} {h':Hp} {M':Bars} {w':World} (T:Trans E h M w E' h' M' w') :
  ∀ {xs:List NE} {f:List Nat} {us:List Value},(∀ b∈f,w'.heap[b]? = w.heap[b]?)→(∀ k∈xs.flatMap NE.keys,(Ah h k).isSome=true)→(∀ k∈xs.flatMap NE.keys,(Ah h' k).isSome=true) →
   NE.Reps E h M w xs f us→NE.Reps E' h' M' w' xs f us
 | [],_,_,_,_,_,r=>by simp only[NE.Reps] at r ⊢;exact r
 | .tr t::xs,_,_,hf,hk,hk',r=>by
  simp only[NE.Reps] at r ⊢;obtain⟨f1,f2,u,vs,rfl,rfl,r1,r2⟩:=r;exact⟨f1,f2,u,vs,rfl,rfl,r1.move T.carry (fun b hb=>hf b (by simp[hb])),NE.Reps.move T (fun b hb=>hf b (by simp[hb])) (fun k hx=>hk k (by simp[NE.keys] at hx ⊢;exact hx)) (fun k hx=>hk' k (by simp[NE.keys] at hx ⊢;exact hx)) r2⟩
 | .ref k n::xs,_,_,hf,hk,hk',r=>by
  simp only[NE.Reps] at r ⊢;obtain⟨u,vs,rfl,r1,r2⟩:=r;exact⟨u,vs,rfl,r1.move T (fun j hj=>hk j (by simp[V.keys] at hj;simp[NE.keys,hj])) (fun j hj=>hk' j (by simp[V.keys] at hj;simp[NE.keys,hj])),
   NE.Reps.move T hf (fun k hx=>hk k (by simp only[HP,HV];exact .inr hx)) (fun k hx=>hk' k (by simp only[HP,HV];exact .inr hx)) r2⟩
theorem NE.Reps.lt {E:Env} {h:Hp} {M:Bars} {w:World}:∀ {xs:List NE} {f:List Nat} {us:List Value},NE.Reps E h M w xs f us→∀ b∈f,b < w.heap.size
 | [],_,_,r=>by simp only[NE.Reps] at r;obtain⟨rfl,_⟩:=r;simp
 | .tr t::xs,_,_,r=>by
  simp only[NE.Reps] at r;obtain⟨f1,f2,u,vs,rfl,rfl,r1,r2⟩:=r;intro b hb;rcases List.mem_append.1 hb with hb|hb
  ·exact r1.lt b hb
  ·exact NE.Reps.lt r2 b hb
 | .ref k n::xs,_,_,r=>by
  simp only[NE.Reps] at r;obtain⟨u,vs,rfl,r1,r2⟩:=r;exact NE.Reps.lt r2
def spK (k:Int×Int×Int):Value:=.agg #[.int .i64 k.1,.int .i64 k.2.1,.int .i64 k.2.2]
def MapAt (w:World) (b:Nat) (p:List ((Int×Int×Int)×Int)→Prop):Prop:=∃ es clock l,w.heap[b]? = some (.map es clock)∧(es.toList.map fun x=>(x.key,x.val))=l.map (fun x=>(spK x.1,Value.int .i64 x.2))∧p l
def Ai (E:Env) (h:Hp) (k:Nat) (b:Nat):Prop :=
 match Ah h k with
 | some (.box _ _)=>E.blk k=b
 | some (.mp _)=>E.blk k=b
 | some (.row _ _ _)=>obOf (E.row k)=some b
 | some (.nest ..)=>obOf (E.row k)=some b∨b∈E.fp k
 | _=>False
def Live (E:Env) (h:Hp) (b:Nat):Prop:=∃ k,Ai E h k b
def bars (E:Env) (h:Hp) (o:Bars):Bars:=fun t b=>Live E h b∨o t b
def NestAt (E:Env) (h:Hp) (M:Bars) (w:World) (k:Nat) (e:TypeId) (xs:List NE):Prop :=
 ∃ us,RowAt M w e 1 (E.row k) (us.map D.raw)∧NE.Reps E h M w xs (E.fp k) us∧((obOf (E.row k)).toList++E.fp k).Nodup
def ObRep (E:Env) (h:Hp) (M:Bars) (w:World) (k:Nat):Ob→Prop
 | .box ty cs=>∃ us:List Value,w.heap[E.blk k]? = some (.cells us.toArray ty (0,0))∧V.Reps E h M w cs us∧∀ x∈us,x.oneCell'=true
 | .row e sz xs=>RowAt M w e sz (E.row k) xs
 | .froz sz xs=>D.Rep M w (.sl false sz xs) [E.row k]
 | .dead _=>True
 | .nest e A r B=>NestAt E h M w k e (nes A r B)
 | .mp p=>MapAt w (E.blk k) p
structure HRep (E:Env) (h:Hp) (o:Bars) (w:World):Prop where
 obs:∀ k ob,Ah h k=some ob→ObRep E h (bars E h o) w k ob
 apart:∀ k k' b,Ai E h k b→Ai E h k' b→k=k'
 closed:∀ k ob,Ah h k=some ob→∀ j∈ob.keys,(Ah h j).isSome=true
theorem HRep.lt {E:Env} {h:Hp} {o:Bars} {w:World} (H:HRep E h o w) {k b:Nat} (hb:Ai E h k b):b < w.heap.size:=by
 unfold Ai at hb;split at hb
 ·rename_i ty cs hk;obtain⟨us,h1,_⟩:=H.obs k _ hk;subst hb;exact (Array.getElem?_eq_some_iff.1 h1).1
 ·rename_i p hk;obtain⟨es,c,l,h1,_⟩:=H.obs k _ hk;subst hb;exact (Array.getElem?_eq_some_iff.1 h1).1
 ·rename_i e sz xs hk;exact RowAt.lt (H.obs k _ hk) b hb
 ·rename_i e A r B hk;obtain⟨us,h1,h2,_⟩:=H.obs k _ hk;rcases hb with hb|hb
  ·exact h1.lt b hb
  ·exact h2.lt b hb
 ·cases hb
theorem NestAt.move {E:Env} {h:Hp} {M:Bars} {w:World} {E':Env} {h':Hp} {M':Bars} {w':World} (T:Trans E h M w E' h' M' w') {k:Nat} {e:TypeId} {xs:List NE} (hr:E'.row k=E.row k) (hf:E'.fp k=E.fp k)
  (hb:∀ b,obOf (E.row k)=some b∨b∈E.fp k→w'.heap[b]? = w.heap[b]?) (hk:∀ j∈xs.flatMap NE.keys,(Ah h j).isSome=true) (hk':∀ j∈xs.flatMap NE.keys,(Ah h' j).isSome=true)
  (r:NestAt E h M w k e xs):NestAt E' h' M' w' k e xs:=by
 obtain⟨us,r1,r2,r3⟩:=r;unfold NestAt;rw[hr,hf];exact⟨us,r1.move T.carry (fun b hx=>hb b (.inl hx)),r2.move T (fun b hx=>hb b (.inr hx)) hk hk',r3⟩
theorem MapAt.move {w w':World} {b:Nat} {p:List ((Int×Int×Int)×Int)→Prop} (hb:w'.heap[b]? = w.heap[b]?) (r:MapAt w b p):MapAt w' b p:=by
 obtain⟨es,c,l,h1,h2⟩:=r;exact⟨es,c,l,hb.trans h1,h2⟩
theorem ObRep.move {E:Env} {h:Hp} {M:Bars} {w:World} {E':Env} {h':Hp} {M':Bars} {w':World} (T:Trans E h M w E' h' M' w') {k:Nat} {ob:Ob} (ho:Ah h k=some ob) (hl:E'.blk k=E.blk k) (hr:E'.row k=E.row k) (hf:E'.fp k=E.fp k)
  (hb:∀ b,Ai E h k b→w'.heap[b]? = w.heap[b]?) (hk:∀ j∈ob.keys,(Ah h j).isSome=true) (hk':∀ j∈ob.keys,(Ah h' j).isSome=true) (r:ObRep E h M w k ob):ObRep E' h' M' w' k ob:=by
 cases ob with
 | box ty cs =>
  simp only[ObRep] at r ⊢;obtain⟨us,g1,g2,g3⟩:=r;refine⟨us,?_,g2.move T (by simpa[Ob.keys] using hk) (by simpa[Ob.keys] using hk'),g3⟩;rw[hl,hb _ (by simp[Ai,ho])];exact g1
 | row e' sz xs =>
  simp only[ObRep] at r ⊢;rw[hr];exact r.move T.carry (fun b hx=>hb b (by simpa[Ai,ho] using hx))
 | froz sz xs =>
  simp only[ObRep] at r ⊢;rw[hr];exact r.carry T.carry
 | dead _=>trivial
 | nest e A l B =>
  simp only[ObRep] at r ⊢;exact r.move T hr hf (fun b hx=>hb b (by simpa[Ai,ho] using hx)) (by rw[ZjX];exact hk) (by rw[ZjX];exact hk')
 | mp p =>
  simp only[ObRep] at r ⊢;rw[hl];exact r.move (hb _ (by simp[Ai,ho]))
structure Upd (E:Env) (h:Hp) (w:World) (k:Nat) (ob:Ob) (E':Env) (w':World):Prop where
 offb:∀ j,j≠k→E'.blk j=E.blk j
 offr:∀ j,j≠k→E'.row j=E.row j
 offp:∀ j,j≠k→E'.fp j=E.fp j
 blk:(Ah h k).isSome=true→E'.blk k=E.blk k
 low:Ah h k=none→k < 1000
 ver:∀ m,verAny h k m→∃ m',verAny ((k,ob)::h) k m'∧m≤m'∧(m=m'→E'.row k=E.row k)
 verR:(Ah h k).isSome=true→∀ sz n,verRow ((k,ob)::h) k sz n→∃ m,verRow h k sz m
 ext:Ext (fun b=>Ai E h k b) w w'
 new:∀ b,Ai E' ((k,ob)::h) k b→Ai E h k b∨w.heap.size≤b
section
variable {E:Env} {h:Hp} {w:World} {k:Nat} {ob:Ob} {E':Env} {w':World}
theorem Upd.blkOf_other (U:Upd E h w k ob E' w') {j:Nat} (hj:j≠k):Ai E' ((k,ob)::h) j=Ai E h j:=by
 funext b;unfold Ai;rw[Zar h ob (Ne.symm hj),U.offb j hj,U.offr j hj,U.offp j hj]
theorem Upd.carry (U:Upd E h w k ob E' w') (o:Bars):Carry (bars E h o) (bars E' ((k,ob)::h) o) w w':=by
 refine⟨fun t b hb hm=>?_,U.ext.size⟩;have hnl:¬ Live E h b:=fun hl=>hm (.inl hl)
 refine⟨U.ext.block b hb (fun hx=>hnl ⟨k,hx⟩),?_⟩;rintro (⟨j,hj⟩|ho)
 ·by_cases hjk:j=k
  ·subst hjk;rcases U.new b hj with h1|h1
   ·exact hnl ⟨j,h1⟩
   ·omega
  ·rw[U.blkOf_other hjk] at hj;exact hnl ⟨j,hj⟩
 ·exact hm (.inr ho)
theorem Zjm (h:Hp) (ob:Ob) {j k n:Nat} (hj:j≠k):verAny ((k,ob)::h) j n↔verAny h j n:=by
 unfold verAny;rw[Zar h ob (Ne.symm hj)]
theorem Zjn (h:Hp) (ob:Ob) {j k sz n:Nat} (hj:j≠k):verRow ((k,ob)::h) j sz n↔verRow h j sz n:=by
 unfold verRow;rw[Zar h ob (Ne.symm hj)]
theorem Upd.mono (_:Upd E h w k ob E' w') (j:Nat) (hj:(Ah h j).isSome=true):(Ah ((k,ob)::h) j).isSome=true:=by
 by_cases e:j=k
 ·subst e;rw[Zai];rfl
 ·rw[Zar h ob (Ne.symm e)];exact hj
theorem Upd.trans (U:Upd E h w k ob E' w') (o:Bars):Trans E h (bars E h o) w E' ((k,ob)::h) (bars E' ((k,ob)::h) o) w':=by
 refine⟨fun j hj _=>?_,fun j _ m hv=>?_,fun j hj sz n hv=>?_,U.carry o⟩
 ·by_cases e:j=k
  ·subst e;exact U.blk hj
  ·exact U.offb j e
 ·by_cases e:j=k
  ·subst e;exact U.ver m hv
  ·exact⟨m,(Zjm h ob e).2 hv,Hg _,fun _=>U.offr j e⟩
 ·by_cases e:j=k
  ·subst e;exact U.verR hj sz n hv
  ·exact⟨n,(Zjn h ob e).1 hv⟩
theorem Upd.hrep (U:Upd E h w k ob E' w') {o:Bars} (H:HRep E h o w) (hnew:ObRep E' ((k,ob)::h) (bars E' ((k,ob)::h) o) w' k ob)
  (hcl:∀ j∈ob.keys,(Ah ((k,ob)::h) j).isSome=true):HRep E' ((k,ob)::h) o w':=by
 have T:=U.trans o;have hsame:∀ j,j≠k→∀ b,Ai E h j b→w'.heap[b]? = w.heap[b]? := fun j hj b hb =>
  U.ext.block b (H.lt hb) (fun hx=>hj (H.apart j k b hb hx))
 refine⟨fun j ob' hj=>?_,fun j j' b h1 h2=>?_,fun j ob' hj i hi=>?_⟩
 ·by_cases e:j=k
  ·subst e;rw[Zai] at hj;cases hj;exact hnew
  ·rw[Zar h ob (Ne.symm e)] at hj;have hr:=H.obs j ob' hj;have hs:=hsame j e;have hcl':=H.closed j ob' hj;exact hr.move T hj (U.offb j e) (U.offr j e) (U.offp j e) hs hcl' (fun i hi=>U.mono i (hcl' i hi))
 ·have key:∀ i,i≠k→∀ b,Ai E' ((k,ob)::h) k b→Ai E' ((k,ob)::h) i b→False:=fun i hi b hk hb=>by
   rw[U.blkOf_other hi] at hb;rcases U.new b hk with g|g
   ·exact hi (H.apart i k b hb g)
   ·have:=H.lt hb;omega
  by_cases e:j=k
  ·by_cases e':j'=k
   ·rw[e,e']
   ·subst e;exact (key j' e' b h1 h2).elim
  ·by_cases e':j'=k
   ·subst e';exact (key j e b h2 h1).elim
   ·rw[U.blkOf_other e] at h1;rw[U.blkOf_other e'] at h2;exact H.apart j j' b h1 h2
 ·by_cases e:j=k
  ·subst e;rw[Zai] at hj;cases hj;exact hcl i hi
  ·rw[Zar h ob (Ne.symm e)] at hj;exact U.mono i (H.closed j ob' hj i hi)
end
structure Ctx where
 n:Nat
 w0:World
 S:Nat→Prop
 E0:Env
 h0:Hp
 o:Bars
 df:List Deferred
def Hist (E0:Env) (h0:Hp) (E:Env) (h:Hp):Prop:=∀ k,1000≤k→(Ah h k).isSome=true →
 (Ah h0 k).isSome=true∧E.blk k=E0.blk k∧(∀ m,verAny h0 k m→∃ m',verAny h k m'∧m≤m'∧(m=m'→E.row k=E0.row k))∧∀ sz n,verRow h k sz n→∃ m,verRow h0 k sz m
structure An (G:Ctx) (E:Env) (fr:Fr) (h:Hp) (a:Act) (w:World):Prop where
 size:a.tmps.size=G.n
 defers:a.defers=G.df
 frame:∀ i,V.Rep E h (bars E h G.o) w (fget fr i) (a.tmps.getD i undef)
 heap:HRep E h G.o w
 closed:∀ i,∀ j∈(fget fr i).keys,(Ah h j).isSome=true
 ext:Ext G.S G.w0 w
 fresh:∀ k b,Ai E h k b→G.S b∨G.w0.heap.size≤b
 keep:Hist G.E0 G.h0 E h
 outer:∀ t b,G.o t b→b < G.w0.heap.size∧¬ G.S b
 sub:∀ b,G.o true b→G.o false b
section
variable {G:Ctx} {E:Env} {fr:Fr} {h:Hp} {a:Act} {w:World}
theorem ZfA {a:Act} {d:Nat} (hd:d < a.tmps.size) (u:Value) (i:Nat):(a.put (some d) u).tmps.getD i undef=if i=d then u else a.tmps.getD i undef:=by
 simp only[Act.put,Jd];by_cases e:i=d
 ·subst e;simp[hd]
 ·rw[Ha e,Array.getElem?_setIfInBounds_ne (Ne.symm e)]
theorem An.put (C:An G E fr h a w) {d:Nat} (hd:d < G.n) {v:V} {u:Value} (hv:V.Rep E h (bars E h G.o) w v u) (hk:∀ j∈v.keys,(Ah h j).isSome=true) :
  An G E ((d,v)::fr) h (a.put (some d) u) w:=by
 refine⟨by simp[Act.put,C.size],by simp[Act.put,C.defers],fun i=>?_,C.heap,fun i=>?_,C.ext,C.fresh,C.keep,C.outer,C.sub⟩
 ·rw[ZfA (by rw[C.size];exact hd)];by_cases e:i=d
  ·subst e;rw[Hb rfl,Zbc];exact hv
  ·rw[Ha e,Za8 fr v (Ne.symm e)];exact C.frame i
 ·by_cases e:i=d
  ·subst e;rw[Zbc];exact hk
  ·rw[Za8 fr v (Ne.symm e)];exact C.closed i
theorem An.putNone (C:An G E fr h a w) (u:Value):An G E fr h (a.put none u) w:=C
theorem Trans.drew (E:Env) (h:Hp) (M:Bars) (w:World):Trans E h M w E h M w.drew :=
 ⟨fun _ _ _=>rfl,fun _ _ m hv=>⟨m,hv,Hg _,fun _=>rfl⟩,fun _ _ _ n hv=>⟨n,hv⟩,⟨fun _ _ _ hm=>⟨rfl,hm⟩,Hg _⟩⟩
theorem HRep.drew {o:Bars} (H:HRep E h o w):HRep E h o w.drew:=by
 have T:=Trans.drew E h (bars E h o) w;refine⟨fun k ob hk=>?_,H.apart,H.closed⟩;have hr:=H.obs k ob hk;exact hr.move T hk rfl rfl rfl (fun _ _=>rfl) (H.closed k _ hk) (H.closed k _ hk)
theorem An.drew (C:An G E fr h a w):An G E fr h a w.drew :=
 ⟨C.size,C.defers,fun i=>(C.frame i).move (Trans.drew E h _ w) (C.closed i) (C.closed i),C.heap.drew,C.closed,C.ext.drew,C.fresh,C.keep,C.outer,C.sub⟩
theorem Upd.hist {k:Nat} {ob:Ob} {E':Env} {w':World} (U:Upd E h w k ob E' w') {E0:Env} {h0:Hp} (H:Hist E0 h0 E h):Hist E0 h0 E' ((k,ob)::h):=by
 intro j hj hs;by_cases e:j=k
 ·subst e;have hold:(Ah h j).isSome=true:=by
   cases hh:Ah h j with
   | none=>have:=U.low hh;omega
   | some _=>rfl
  obtain⟨g0,g1,g2,g3⟩:=H j hj hold;refine⟨g0,(U.blk hold).trans g1,fun m hm=>?_,fun sz n hv=>?_⟩
  ·obtain⟨m1,k1,k2,k3⟩:=g2 m hm;obtain⟨m2,l1,l2,l3⟩:=U.ver m1 k1;exact⟨m2,l1,by omega,fun e=>(l3 (by omega)).trans (k3 (by omega))⟩
  ·obtain⟨m,hm⟩:=U.verR hold sz n hv;exact g3 sz m hm
 ·rw[Zar h ob (Ne.symm e)] at hs;obtain⟨g0,g1,g2,g3⟩:=H j hj hs;refine⟨g0,(U.offb j e).trans g1,fun m hm=>?_,fun sz n hv=>g3 sz n ((Zjn h ob e).1 hv)⟩;obtain⟨m1,k1,k2,k3⟩:=g2 m hm;exact⟨m1,(Zjm h ob e).2 k1,k2,fun q=>(U.offr j e).trans (k3 q)⟩
theorem An.upd (C:An G E fr h a w) {k:Nat} {ob:Ob} {E':Env} {w':World} (U:Upd E h w k ob E' w')
  (hnew:ObRep E' ((k,ob)::h) (bars E' ((k,ob)::h) G.o) w' k ob) (hcl:∀ j∈ob.keys,(Ah ((k,ob)::h) j).isSome=true):An G E' fr ((k,ob)::h) a w':=by
 have T:=U.trans G.o;refine⟨C.size,C.defers,fun i=>(C.frame i).move T (C.closed i) (fun j hj=>U.mono j (C.closed i j hj)),U.hrep C.heap hnew hcl,fun i j hj=>U.mono j (C.closed i j hj),?_,fun j b hb=>?_,U.hist C.keep,C.outer,C.sub⟩
 ·refine C.ext.trans U.ext (fun x hx hl=>?_);rcases C.fresh k x hx with h1|h1
  ·exact h1
  ·omega
 ·by_cases e:j=k
  ·subst e;rcases U.new b hb with h1|h1
   ·exact C.fresh j b h1
   ·exact .inr (Hq C.ext.size h1)
  ·rw[U.blkOf_other e] at hb;exact C.fresh j b hb
end
def dput (dst:Option Tmp) (v:V) (fr:Fr):Fr:=match dst with
 | some d=>(d,v)::fr
 | none=>fr
def wpS (P:Program) (ops:Array Oper) (Q:Exit→Act→World→Prop) (o:Oper) (K:Act→World→Prop) (a:Act) (w:World):Prop :=
 if Region.wanted o (yielded ops a.tmps)=true then o.wp P a w K Q∨(o.asks P a w∧LetsOut Q) else K (a.put o.dst undef) w
def LStep (P:Program) (n:Nat) (ops:Array Oper) (PS:List PanicEntry→Fr→Hp→Prop) (o:Oper) (ins:List (Nat×V)) (objs:List (Nat×Option Ob)) (v:V) (upd:List (Nat×Ob)):Prop :=
 ∀ (G:Ctx) (E:Env) (fr:Fr) (h:Hp) (a:Act) (w:World) (K:Act→World→Prop) (Q:Exit→Act→World→Prop),(∀ ch E fr h a w,PS ch fr h→An G E fr h a w→Q (.panic ch) a w)→G.n=n→An G E fr h a w →
  (∀ p∈ins,fget fr p.1=p.2)→(∀ p∈objs,Ah h p.1=p.2) →
  (∀ E' a' w',An G E' (dput o.dst v fr) (upd++h) a' w'→K a' w')→wpS P ops Q o K a w
def LStepP (P:Program) (n:Nat) (ops:Array Oper) (PS:List PanicEntry→Fr→Hp→Prop) (o:Oper) (ins:List (Nat×V)) (pre:Hp→Prop) (v:V) (upd:List (Nat×Ob)):Prop :=
 ∀ (G:Ctx) (E:Env) (fr:Fr) (h:Hp) (a:Act) (w:World) (K:Act→World→Prop) (Q:Exit→Act→World→Prop),(∀ ch E fr h a w,PS ch fr h→An G E fr h a w→Q (.panic ch) a w)→G.n=n→An G E fr h a w →
  (∀ p∈ins,fget fr p.1=p.2)→pre h →
  (∀ E' a' w',An G E' (dput o.dst v fr) (upd++h) a' w'→K a' w')→wpS P ops Q o K a w
theorem LStepP.mono {P:Program} {n:Nat} {ops:Array Oper} {PS PS':List PanicEntry→Fr→Hp→Prop} {o:Oper} {ins:List (Nat×V)} {pre:Hp→Prop} {v:V} {upd:List (Nat×Ob)} (hp:∀ ch fr h,PS ch fr h→PS' ch fr h) (hs:LStepP P n ops PS o ins pre v upd):LStepP P n ops PS' o ins pre v upd :=
 fun G E fr h a w K Q hQ=>hs G E fr h a w K Q (fun ch E fr h a w q=>hQ ch E fr h a w (hp ch fr h q))
abbrev never:V:=.eptr false 0 [] 0 0
def okp (k:Nat) (p:Ob→Prop) (h:Hp):Prop:=∃ ob,Ah h k=some ob∧p ob
structure Rec where
 rs:List Nat
 ws:List Nat
 rk:List Nat
 wk:List Nat
def Zqu (a b:List Nat):Bool:=a.any fun x=>b.any fun y=>Nat.beq x y
def Zi0 (i j:Rec):Bool:=Zqu i.ws j.ws || Zqu i.ws j.rs || Zqu i.rs j.ws || Zqu i.wk j.wk || Zqu i.wk j.rk || Zqu i.rk j.wk
def Zgw (e:Edge):Bool:=Region.binds .any e
def ahead (ops:List Oper):Nat→Nat→Nat→Bool
 | 0,_,_=>false
 | f+1,i,j=>match ops[j]? with
  | none=>false
  | some o=>o.after.toList.any (fun e=>Zgw e && Nat.beq e.on i) || o.after.toList.any (fun e=>Zgw e && ahead ops f i e.on)
def okAt (ops:List Oper) (log:List Rec) (j:Nat) (rj:Rec):List Rec→Nat→Bool
 | [],_=>true
 | ri::r,i=>(match Nat.blt i j with
  | true=>(match Zi0 ri rj with|true=>ahead ops 40 i j|false=>true) && okAt ops log j rj r (i+1)
  | false=>true)
def ZBv (ops:List Oper) (log:List Rec):List Rec→Nat→Bool
 | [],_=>true
 | rj::r,j=>okAt ops log j rj log 0 && ZBv ops log r (j+1)
def Zh2:List Oper→Nat→Bool
 | [],_=>true
 | o::r,j=>o.after.toList.all (fun e=>!Zgw e || Nat.blt e.on j) && Zh2 r (j+1)
def Zga (ops:List Oper) (log:List Rec):Bool:=Zh2 ops 0 && ZBv ops log log 0
def dops (P:Program) (n:Nat) (dr:Bool) (ops:Array Oper):List Oper→List Rec→(Exit→Fr→Hp→Prop)→Fr→Hp→Prop
 | [],log,K,fr,h=>(dr=true→Zga ops.toList log.reverse=true)∧K .normal fr h
 | o::rest,log,K,fr,h=>(∃ ins objs v upd,LStep P n ops (fun ch=>K (.panic ch)) o ins objs v upd∧(∀ p∈ins,fget fr p.1=p.2)∧(∀ p∈objs,Ah h p.1=p.2) ∧
   dops P n dr ops rest (⟨ins.map Prod.fst,o.dst.toList,objs.map Prod.fst,upd.map Prod.fst⟩::log) K (dput o.dst v fr) (upd++h)) ∨
  ∃ ins k p v,LStepP P n ops (fun ch=>K (.panic ch)) o ins (okp k p) v []∧(∀ q∈ins,fget fr q.1=q.2)∧okp k p h∧(∀ r∈log,k ∉ r.wk) ∧
   dops P n dr ops rest (⟨ins.map Prod.fst,o.dst.toList,[],[]⟩::log) (fun e fr' h'=>K e fr' h'∧(e=.normal→∃ u,h'=u++h∧∀ q∈u,q.1=k→p q.2)) (dput o.dst v fr) h
section
variable {P:Program} {n:Nat} {ops:Array Oper} {G:Ctx} {Q:Exit→Act→World→Prop}
theorem Zlk {dr:Bool} (hn:G.n=n):∀ (rest:List Oper) (log:List Rec) (K:Exit→Fr→Hp→Prop) (_:∀ E fr h a w,K .normal fr h→An G E fr h a w→Q .normal a w) (_:∀ ch E fr h a w,K (.panic ch) fr h→An G E fr h a w→Q (.panic ch) a w) (E:Env) (fr:Fr) (h:Hp) (a:Act) (w:World),
  dops P n dr ops rest log K fr h→An G E fr h a w→wpList P ops Q rest a w
 | [],_,K,hQ,hP,E,fr,h,a,w,hd,C=>hQ E fr h a w hd.2 C
 | o::rest,log,K,hQ,hP,E,fr,h,a,w,hd,C=>by
  rcases hd with ⟨ins,objs,v,upd,hs,h1,h2,h3⟩|⟨ins,k,p,v,hs,h1,h2,_,h3⟩
  ·have:=hs G E fr h a w (wpList P ops Q rest) Q hP hn C h1 h2 (fun E' a' w' C'=>Zlk hn rest _ K hQ hP E' _ _ a' w' h3 C');exact this
  ·have:=hs G E fr h a w (wpList P ops Q rest) Q hP hn C h1 h2 (fun E' a' w' C'=>Zlk hn rest _ _ (fun E fr h a w hk=>hQ E fr h a w hk.1) (fun ch E fr h a w hk=>hP ch E fr h a w hk.1) E' _ _ a' w' h3 C');exact this
variable {K:Exit→Fr→Hp→Prop}
theorem An.congr {E:Env} {fr fr':Fr} {h h':Hp} {a:Act} {w:World} (hf:∀ i,fget fr i=fget fr' i) (hh:∀ k,Ah h k=Ah h' k) (C:An G E fr h a w):An G E fr' h' a w:=by
 have hb:∀ k,Ai E h' k=Ai E h k:=fun k=>by funext b;unfold Ai;rw[hh k]
 have hB:bars E h G.o=bars E h' G.o:=by
  funext t b;unfold bars Live;simp only[hb]
 have hs:∀ {j},(Ah h j).isSome=true→(Ah h' j).isSome=true:=fun {j} hj=>by rw[←hh j];exact hj
 have T:Trans E h (bars E h G.o) w E h' (bars E h' G.o) w:=by
  refine⟨fun _ _ _=>rfl,fun k _ m hv=>⟨m,?_,Hg _,fun _=>rfl⟩,fun k _ sz n hv=>⟨n,?_⟩,?_⟩
  ·unfold verAny at hv ⊢;rw[←hh k];exact hv
  ·unfold verRow at hv ⊢;rw[hh k];exact hv
  ·rw[hB];exact Carry.refl _ _
 refine⟨C.size,C.defers,fun i=>by rw[←hf i];exact (C.frame i).move T (C.closed i) (fun j hj=>hs (C.closed i j hj)),⟨fun k ob hk=>?_,fun k k' b h1 h2=>C.heap.apart k k' b (by rw[←hb];exact h1) (by rw[←hb];exact h2),fun k ob hk j hj=>?_⟩,fun i j hj=>?_,C.ext,fun k b hk=>C.fresh k b (by rw[←hb];exact hk),fun k hk hk'=>?_,C.outer,C.sub⟩
 ·rw[←hh k] at hk;have hr:=C.heap.obs k ob hk;have hc:=C.heap.closed k _ hk;exact hr.move T hk rfl rfl rfl (fun _ _=>rfl) hc (fun j hj=>hs (hc j hj))
 ·rw[←hh k] at hk;rw[←hh j];exact C.heap.closed k ob hk j hj
 ·rw[←hf i] at hj;rw[←hh j];exact C.closed i j hj
 ·rw[←hh k] at hk';obtain⟨g0,g1,g2,g3⟩:=C.keep k hk hk';refine⟨g0,g1,fun m hm=>?_,fun sz n hv=>g3 sz n ?_⟩
  ·obtain⟨m',k1,k2,k3⟩:=g2 m hm;exact⟨m',by unfold verAny at k1 ⊢;rw[←hh k];exact k1,k2,k3⟩
  ·unfold verRow at hv ⊢;rw[hh k];exact hv
structure Stp where
 dst:Option Tmp
 ins:List (Nat×V)
 objs:List (Nat×Option Ob)
 v:V
 upd:List (Nat×Ob)
 pre:Hp→Prop
def Stp.rc (s:Stp):Rec:=⟨s.ins.map Prod.fst,s.dst.toList,s.objs.map Prod.fst,s.upd.map Prod.fst⟩
def Stp.app (s:Stp) (st:Fr×Hp):Fr×Hp:=(dput s.dst s.v st.1,s.upd++st.2)
def cst (X:Nat→Bool):List Stp→Nat→Fr×Hp→Fr×Hp
 | [],_,st=>st
 | s::r,i,st=>cst X r (i+1) (if X i=true then s.app st else st)
theorem ZeO {s:Stp} {st:Fr×Hp} {x:Nat} (h:x ∉ s.dst.toList):fget (s.app st).1 x=fget st.1 x:=by
 unfold Stp.app dput;cases hd:s.dst with
 | none=>rfl
 | some d=>rw[hd] at h;exact Za8 _ _ (by simpa[eq_comm] using h)
theorem ZaL {u h:Hp} {k:Nat}:Ah (u++h) k=match Ah u k with|some o=>some o|none=>Ah h k:=by
 induction u with
 | nil=>rfl
 | cons p u ih =>
  obtain⟨j,o⟩:=p;simp only[Hv,Ah];cases Nat.beq j k with
  | true=>rfl
  | false=>exact ih
theorem ZcD {u:Hp} {k:Nat} (h:k ∉ u.map Prod.fst):Ah u k=none:=by
 induction u with
 | nil=>rfl
 | cons p u ih =>
  obtain⟨j,o⟩:=p;simp only[Hm,Gq,not_or] at h;rw[Zar _ _ (Ne.symm h.1)];exact ih h.2
theorem Zh3 {u:Hp} {k:Nat} (h:k∈u.map Prod.fst):∃ o,Ah u k=some o:=by
 induction u with
 | nil=>simp at h
 | cons p u ih =>
  obtain⟨j,o⟩:=p;by_cases e:j=k
  ·subst e;exact⟨o,Zai _ _ _⟩
  ·rw[Zar _ _ e];exact ih (by simpa[Ne.symm e] using h)
theorem ZgL {s:Stp} {st:Fr×Hp} {k:Nat} (h:k ∉ s.upd.map Prod.fst):Ah (s.app st).2 k=Ah st.2 k:=by
 unfold Stp.app;rw[ZaL,ZcD h]
theorem ZlY {s:Stp} {st st':Fr×Hp} {x:Nat} (h:fget st.1 x=fget st'.1 x):fget (s.app st).1 x=fget (s.app st').1 x:=by
 unfold Stp.app dput;cases s.dst with
 | none=>exact h
 | some d =>
  by_cases e:d=x
  ·subst e;rw[Zbc,Zbc]
  ·rw[Za8 _ _ e,Za8 _ _ e];exact h
theorem ZlZ {s:Stp} {st st':Fr×Hp} {k:Nat} (h:Ah st.2 k=Ah st'.2 k):Ah (s.app st).2 k=Ah (s.app st').2 k:=by
 unfold Stp.app;rw[ZaL,ZaL];cases Ah s.upd k with
 | none=>exact h
 | some o=>rfl
theorem ZjY {X Y:Nat→Bool} {x:Nat}:∀ (l:List Stp) (i:Nat) (st st':Fr×Hp),fget st.1 x=fget st'.1 x→(∀ j s,l[j]? = some s→x∈s.dst.toList→X (i+j)=Y (i+j)) →
  fget (cst X l i st).1 x=fget (cst Y l i st').1 x
 | [],_,_,_,h,_=>h
 | s::r,i,st,st',h,hx=>by
  simp only[cst];refine ZjY r (i+1) _ _ ?_ (fun j s' hj hm=>by have:=hx (j+1) s' (by simpa using hj) hm;rwa [show i+(j+1)=i+1+j by omega] at this);by_cases hm:x∈s.dst.toList
  ·have:=hx 0 s (by simp) hm;simp only[Gx] at this;rw[this];split
   ·exact ZlY h
   ·exact h
  ·split <;> split <;> simp only[ZeO hm,h]
theorem ZjZ {X Y:Nat→Bool} {x:Nat}:∀ (l:List Stp) (i:Nat) (st st':Fr×Hp),Ah st.2 x=Ah st'.2 x→(∀ j s,l[j]? = some s→x∈s.upd.map Prod.fst→X (i+j)=Y (i+j)) →
  Ah (cst X l i st).2 x=Ah (cst Y l i st').2 x
 | [],_,_,_,h,_=>h
 | s::r,i,st,st',h,hx=>by
  simp only[cst];refine ZjZ r (i+1) _ _ ?_ (fun j s' hj hm=>by have:=hx (j+1) s' (by simpa using hj) hm;rwa [show i+(j+1)=i+1+j by omega] at this);by_cases hm:x∈s.upd.map Prod.fst
  ·have:=hx 0 s (by simp) hm;simp only[Gx] at this;rw[this];split
   ·exact ZlZ h
   ·exact h
  ·split <;> split <;> simp only[ZgL hm,h]
theorem Zll (X:Nat→Bool):∀ (l r:List Stp) (i:Nat) (st:Fr×Hp),cst X (l++r) i st=cst X r (i+l.length) (cst X l i st)
 | [],_,_,_=>rfl
 | s::l,r,i,st=>by
  simp only[Hv,cst,Hl];rw[Zll X l r (i+1),show i+1+l.length=i+(l.length+1) by omega]
theorem Zi1 {X:Nat→Bool} {x:Nat}:∀ (l:List Stp) (i:Nat) (st:Fr×Hp),(∀ j s,l[j]? = some s→x∈s.dst.toList→X (i+j)=false)→fget (cst X l i st).1 x=fget st.1 x
 | [],_,_,_=>rfl
 | s::r,i,st,hx=>by
  simp only[cst];rw[Zi1 r (i+1) _ (fun j s' hj hm=>by have:=hx (j+1) s' (by simpa using hj) hm;rwa [show i+(j+1)=i+1+j by omega] at this)];by_cases hm:x∈s.dst.toList
  ·have:=hx 0 s (by simp) hm;simp only[Gx] at this;rw[Ha (by simp[this])]
  ·split
   ·exact ZeO hm
   ·rfl
theorem Zgx {X:Nat→Bool} {x:Nat}:∀ (l:List Stp) (i:Nat) (st:Fr×Hp),(∀ j s,l[j]? = some s→x∈s.upd.map Prod.fst→X (i+j)=false)→Ah (cst X l i st).2 x=Ah st.2 x
 | [],_,_,_=>rfl
 | s::r,i,st,hx=>by
  simp only[cst];rw[Zgx r (i+1) _ (fun j s' hj hm=>by have:=hx (j+1) s' (by simpa using hj) hm;rwa [show i+(j+1)=i+1+j by omega] at this)];by_cases hm:x∈s.upd.map Prod.fst
  ·have:=hx 0 s (by simp) hm;simp only[Gx] at this;rw[Ha (by simp[this])]
  ·split
   ·exact ZgL hm
   ·rfl
theorem ZyR {X:Nat→Bool} {k:Nat} {p:Ob→Prop}:∀ (l:List Stp) (i:Nat) (st:Fr×Hp),okp k p st.2→(∀ j s,l[j]? = some s→X (i+j)=true→∀ q∈s.upd,q.1=k→p q.2)→okp k p (cst X l i st).2
 | [],_,_,h,_=>h
 | s::r,i,st,h,hx=>by
  simp only[cst];refine ZyR r (i+1) _ ?_ (fun j s' hj hm=>by have:=hx (j+1) s' (by simpa using hj);rw[show i+(j+1)=i+1+j by omega] at this;exact this hm);split
  ·rename_i hX;have h0:=hx 0 s (by simp) (by simpa using hX);obtain⟨ob,h1,h2⟩:=h;unfold Stp.app okp;rw[ZaL];cases hq:Ah s.upd k with
   | none=>exact⟨ob,h1,h2⟩
   | some o' =>
    refine⟨o',rfl,?_⟩;have hm:∀ (u:Hp),Ah u k=some o'→(k,o')∈u:=fun u=>by
     induction u with
     | nil=>intro h;cases h
     | cons q u ih =>
      obtain⟨j,o⟩:=q;intro hg;by_cases e:j=k
      ·subst e;rw[Zai] at hg;cases hg;exact HT
      ·rw[Zar _ _ e] at hg;exact HK _ (ih hg)
    exact h0 (k,o') (hm _ hq) rfl
  ·exact h
def ups:List Stp→Hp
 | []=>[]
 | s::r=>ups r++s.upd
theorem ZyS:∀ (l:List Stp) (i:Nat) (st:Fr×Hp),(cst (fun _=>true) l i st).2=ups l++st.2
 | [],_,_=>rfl
 | s::r,i,st=>by simp only[cst,ups,if_true];rw[ZyS r];simp[Stp.app]
theorem ZDi {l:List Stp} {s:Stp} (h:s∈l):∀ q∈s.upd,q∈ups l:=by
 induction l with
 | nil=>cases h
 | cons x l ih =>
  intro q hq;simp only[ups,HV];rcases List.mem_cons.1 h with rfl|h
  ·exact .inr hq
  ·exact .inl (ih h q hq)
def Fair (l:List Stp) (i:Nat) (s:Stp) (X:Nat→Bool):Prop:=X i=false∧∀ j sj,l[j]? = some sj→j≠i→(j < i→Zi0 sj.rc s.rc=true)→(i < j→Zi0 s.rc sj.rc=true)→X j=decide (j < i)
structure ZFb (P:Program) (n:Nat) (ops:Array Oper) (PS:List PanicEntry→Fr→Hp→Prop) (l:List Stp) (st:Fr×Hp):Prop where
 len:l.length=ops.size
 step:∀ i s o,l[i]? = some s→ops[i]? = some o→s.dst=o.dst∧LStepP P n ops PS o s.ins s.pre s.v s.upd ∧
  (∀ p∈s.ins,fget (cst (fun j=>decide (j < i)) l 0 st).1 p.1=p.2)∧∀ X,Fair l i s X→∀ h,(∀ x,Ah h x=Ah (cst X l 0 st).2 x)→s.pre h
theorem ZtX {α:Type} {l:List α} {i:Nat} {x:α} (h:l[i]? = some x):l=l.take i++(x::l.drop (i+1)):=by
 have h':=(List.getElem?_eq_some_iff.1 h).2;rw[←h'];simp
theorem meets_spec {a b:List Nat}:Zqu a b=true↔∃ x,x∈a∧x∈b:=by
 simp only[Zqu,Jm];constructor
 ·rintro⟨x,hx,y,hy,e⟩;have:=HQ e;subst this;exact⟨x,hx,hy⟩
 ·rintro⟨x,hx,hy⟩;exact⟨x,hx,x,hy,Gt x⟩
theorem Zqv {ops:List Oper} {log:List Rec} {j:Nat} {rj:Rec}:∀ (l:List Rec) (i:Nat),okAt ops log j rj l i=true→∀ m ri,l[m]? = some ri→i+m < j→Zi0 ri rj=true→ahead ops 40 (i+m) j=true
 | [],_,_,m,ri,hm,_,_=>by simp at hm
 | r::l,i,h,m,ri,hm,hlt,hc=>by
  simp only[okAt] at h;have hi:Nat.blt i j=true:=by rw[HU];omega
  rw[hi] at h;simp only[Hr] at h
  match m with
  | 0 =>
   simp only[G3,Hx] at hm;subst hm;rw[hc] at h;exact h.1
  | m+1 =>
   have:=Zqv l (i+1) h.2 m ri (by simpa using hm) (by omega) hc
   rwa [show i+1+m=i+(m+1) by omega] at this
theorem Zm1 {ops:List Oper} {log:List Rec}:∀ (l:List Rec) (j:Nat),ZBv ops log l j=true→∀ m rj,l[m]? = some rj→okAt ops log (j+m) rj log 0=true
 | [],_,_,m,rj,hm=>by simp at hm
 | r::l,j,h,m,rj,hm=>by
  simp only[ZBv,Hr] at h
  match m with
  | 0=>simp only[G3,Hx] at hm;subst hm;exact h.1
  | m+1 =>
   have:=Zm1 l (j+1) h.2 m rj (by simpa using hm)
   rwa [show j+1+m=j+(m+1) by omega] at this
theorem ZeP:∀ (l:List Oper) (j:Nat),Zh2 l j=true→∀ m o,l[m]? = some o→∀ e∈o.after,Zgw e=true→e.on < j+m
 | [],_,_,m,o,hm=>by simp at hm
 | r::l,j,h,m,o,hm=>by
  simp only[Zh2,Hr,HR] at h
  match m with
  | 0 =>
   simp only[G3,Hx] at hm;subst hm;intro e he hb;have:=h.1 e (by simpa using he);rw[hb] at this;simpa[HU] using this
  | m+1 =>
   intro e he hb;have:=ZeP l (j+1) h.2 m o (by simpa using hm) e he hb;omega
theorem ZyT {l:List Stp} {i:Nat} {s:Stp} {X:Nat→Bool} {st:Fr×Hp} (hsi:l[i]? = some s) (hobjs:∀ p∈s.objs,Ah (cst (fun j=>decide (j < i)) l 0 st).2 p.1=p.2) (hF:Fair l i s X) (h:Hp) (hh:∀ x,Ah h x=Ah (cst X l 0 st).2 x):∀ p∈s.objs,Ah h p.1=p.2:=fun p hp=>by
 rw[hh p.1,←hobjs p hp];refine ZjZ l 0 st st rfl (fun j sj hj hm=>?_);simp only[HE];by_cases hne:j=i
 ·subst hne;rw[hF.1];simp
 ·refine hF.2 j sj hj hne (fun _=>?_) (fun _=>?_)
  ·simp only[Zi0,Gj];exact .inl (.inr (meets_spec.2 ⟨p.1,hm,by simp only[Stp.rc,Gv];exact⟨p,hp,rfl⟩⟩))
  ·simp only[Zi0,Gj];exact .inr (meets_spec.2 ⟨p.1,by simp only[Stp.rc,Gv];exact⟨p,hp,rfl⟩,hm⟩)
def Down (ops:Array Oper) (X:Nat→Bool):Prop:=∀ j o,ops[j]? = some o→X j=true→∀ e∈o.after,Zgw e=true→X e.on=true
theorem Zi2 {ops:Array Oper} {X:Nat→Bool} (hD:Down ops X):∀ (f i j:Nat) (o:Oper),ops[j]? = some o→(∀ e∈o.after,Zgw e=true→X e.on=true)→ahead ops.toList f i j=true→X i=true
 | 0,i,j,o,_,_,h=>by simp[ahead] at h
 | f+1,i,j,o,ho,hX,h=>by
  simp only[ahead] at h;have ho':ops.toList[j]? = some o:=by simpa using ho
  rw[ho'] at h;simp only[Gj,Jm,Hr] at h;rcases h with ⟨e,he,hb,hon⟩|⟨e,he,hb,hon⟩
  ·have:=HQ hon;rw[←this];exact hX e (by simpa using he) hb
  ·have hXe:=hX e (by simpa using he) hb;cases hq:ops[e.on]? with
   | none =>
    exfalso;have hq':ops.toList[e.on]? = none:=(by simpa using hq);cases f with
    | zero=>simp[ahead] at hon
    | succ f=>simp only[ahead,hq'] at hon;cases hon
   | some o'=>exact Zi2 hD f i e.on o' hq (hD e.on o' hq hXe) hon
theorem ZyU {l:List Stp} {st:Fr×Hp} (hn:G.n=n) {PS:List PanicEntry→Fr→Hp→Prop} (hC:ZFb P n ops PS l st) (hP:∀ ch E fr h a w,PS ch fr h→An G E fr h a w→Q (.panic ch) a w) (hok:Zga ops.toList (l.map Stp.rc)=true)
  (hK:K .normal (cst (fun _=>true) l 0 st).1 (cst (fun _=>true) l 0 st).2) (hQ:∀ E fr h a w,K .normal fr h→An G E fr h a w→Q .normal a w) :
  ∀ (fuel:Nat) (listed:Array Bool) (E:Env) (fr:Fr) (h:Hp) (a:Act) (w:World),listed.size=ops.size→listed.toList.count false≤fuel →
   Down ops (fun i=>listed.getD i false)→(∀ x,fget fr x=fget (cst (fun i=>listed.getD i false) l 0 st).1 x)→(∀ x,Ah h x=Ah (cst (fun i=>listed.getD i false) l 0 st).2 x) →
   An G E fr h a w→wpAny P .any ops Q fuel listed a w:=by
 simp only[Zga,Hr] at hok;obtain⟨hback,hall⟩:=hok;have hord:∀ i j si sj,l[i]? = some si→l[j]? = some sj→i < j→Zi0 si.rc sj.rc=true→ahead ops.toList 40 i j=true:=fun i j si sj hi hj hlt hc=>by
  have h1:=Zm1 _ 0 hall j sj.rc (by simp[hj]);rw[HE] at h1;have:=Zqv _ 0 h1 i si.rc (by simp[hi]) (by omega) hc;simpa using this
 have hfin:∀ (listed:Array Bool) (E:Env) (fr:Fr) (h:Hp) (a:Act) (w:World),listed.size=ops.size→Region.ready .any ops listed=[]→Down ops (fun i=>listed.getD i false) →
   (∀ x,fget fr x=fget (cst (fun i=>listed.getD i false) l 0 st).1 x)→(∀ x,Ah h x=Ah (cst (fun i=>listed.getD i false) l 0 st).2 x)→An G E fr h a w→Q .normal a w:=by
  intro listed E fr h a w hs hr hD hf hh C;have hallX:∀ i,i < ops.size→listed.getD i false=true:=by
   intro i
   induction i using Nat.strongRecOn with
   | _ i ih =>
    intro hi;cases hx:listed.getD i false with
    | true=>rfl
    | false =>
     exfalso;have hi':i < listed.size:=(by omega);have hm:i∈Region.ready .any ops listed:=by
      rw[mem_ready];refine⟨?_,ops[i],by simp[hi],fun e he hb=>ih e.on ?_ ?_⟩
      ·simp[hi'] at hx ⊢;exact hx
      ·have:=ZeP _ 0 hback i ops[i] (by simp[hi]) e he hb;omega
      ·have:=ZeP _ 0 hback i ops[i] (by simp[hi]) e he hb;omega
     rw[hr] at hm;cases hm
  refine hQ E _ _ a w hK (C.congr (fun x=>?_) (fun x=>?_))
  ·rw[hf x];exact ZjY l 0 st st rfl (fun j s hj _=>by
    have:j < ops.size:=(by rw[←hC.len];exact (List.getElem?_eq_some_iff.1 hj).1);simp[hallX j this])
  ·rw[hh x];exact ZjZ l 0 st st rfl (fun j s hj _=>by
    have:j < ops.size:=(by rw[←hC.len];exact (List.getElem?_eq_some_iff.1 hj).1);simp[hallX j this])
 intro fuel
 induction fuel with
 | zero =>
  intro listed E fr h a w hs hc hD hf hh C;have hr:Region.ready .any ops listed=[]:=by
   apply List.eq_nil_iff_forall_not_mem.2;intro i hi;have h1:=(mem_ready.1 hi).1;have hil:i < listed.size:=by
    rcases Jh i listed.size with h'|h'
    ·exact h'
    ·simp[Array.getElem?_eq_none h'] at h1
   have hm:false∈listed.toList:=by
    simp[hil] at h1;rw[←h1];simp
   have:=List.count_pos_iff.2 hm;omega
  exact⟨hr,hfin listed E fr h a w hs hr hD hf hh C⟩
 | succ fuel ih =>
  intro listed E fr h a w hs hc hD hf hh C;refine⟨fun hr=>hfin listed E fr h a w hs hr hD hf hh C,fun i hi=>?_⟩;obtain⟨hun,o,ho,hpre⟩:=mem_ready.1 hi;have hiN:i < ops.size:=(Array.getElem?_eq_some_iff.1 ho).1;have hil:i < listed.size:=by omega
  have hunl:listed.getD i false=false:=by simp[hil] at hun ⊢;exact hun
  obtain⟨s,hsi⟩:∃ s,l[i]? = some s:=⟨l[i]'(by rw[hC.len];exact hiN),by simp⟩
  obtain⟨hdst,hstep,hins,hpre'⟩:=hC.step i s o hsi ho;have hDi:∀ j,ahead ops.toList 40 j i=true→listed.getD j false=true:=fun j hj=>Zi2 hD 40 j i o ho hpre hj
  have hclash:∀ j sj,l[j]? = some sj→(j < i→Zi0 sj.rc s.rc=true)→(i < j→Zi0 s.rc sj.rc=true)→j≠i→listed.getD j false=decide (j < i):=by
   intro j sj hj c1 c2 hne;rcases G9 j i with hlt|he|hgt
   ·rw[hDi j (hord j i sj s hj hsi hlt (c1 hlt))];simp[hlt]
   ·exact absurd he hne
   ·have hnl:¬ j < i:=(by omega);simp only[hnl,decide_false];cases hx:listed.getD j false with
    | false=>rfl
    | true =>
     exfalso;have hjN:j < ops.size:=(by rw[←hC.len];exact (List.getElem?_eq_some_iff.1 hj).1);have:=Zi2 hD 40 i j ops[j] (by simp[hjN]) (hD j ops[j] (by simp[hjN]) hx) (hord i j s sj hsi hj hgt (c2 hgt));rw[this] at hunl;cases hunl
  have hins':∀ p∈s.ins,fget fr p.1=p.2:=fun p hp=>by
   rw[hf p.1,←hins p hp];refine ZjY l 0 st st rfl (fun j sj hj hm=>?_);simp only[HE];by_cases hne:j=i
   ·subst hne;rw[hunl];simp
   ·refine hclash j sj hj (fun _=>?_) (fun _=>?_) hne
    ·simp only[Zi0,Gj];exact .inl (.inl (.inl (.inl (.inr (meets_spec.2 ⟨p.1,by simpa[Stp.rc] using hm,by simp only[Stp.rc,Gv];exact⟨p,hp,rfl⟩⟩)))))
    ·simp only[Zi0,Gj];exact .inl (.inl (.inl (.inr (meets_spec.2 ⟨p.1,by simp only[Stp.rc,Gv];exact⟨p,hp,rfl⟩,by simpa[Stp.rc] using hm⟩))))
  have hobjs':s.pre h:=hpre' (fun j=>listed.getD j false) ⟨hunl,fun j sj hj hne c1 c2=>hclash j sj hj c1 c2 hne⟩ h hh;have hset:∀ j,(listed.setIfInBounds i true).getD j false=if j=i then true else listed.getD j false:=fun j=>by
   by_cases e:j=i
   ·subst e;simp[hil]
   ·rw[Ha e];simp only[Jd];rw[Array.getElem?_setIfInBounds_ne (Ne.symm e)]
  have hXi:∀ j,j≠i→(listed.setIfInBounds i true).getD j false=listed.getD j false:=fun j hj=>by rw[hset j,Ha hj]
  have hnext:∀ E' a' w',An G E' (dput o.dst s.v fr) (s.upd++h) a' w'→wpAny P .any ops Q fuel (listed.setIfInBounds i true) a' w':=fun E' a' w' C'=>by
   refine ih (listed.setIfInBounds i true) E' _ _ a' w' (by simp[hs]) ?_ ?_ ?_ ?_ C'
   ·have hf':listed.toList[i]? = some false:=(by simp[hil] at hun ⊢;exact hun);have hsp:listed.toList=listed.toList.take i++(false::listed.toList.drop (i+1)):=by
     exact ZtX hf'
    have e1:(listed.setIfInBounds i true).toList=listed.toList.take i++(true::listed.toList.drop (i+1)):=by
     rw[Array.toList_setIfInBounds,List.set_eq_take_append_cons_drop,Hb (by simpa using hil)]
    rw[hsp] at hc;rw[e1];simp only[List.count_append,List.count_cons] at hc ⊢;simp at hc ⊢;omega
   ·intro j o' hj hX e he hb;simp only[hset] at hX ⊢;by_cases ej:e.on=i
    ·rw[Hb ej]
    ·rw[Ha ej];by_cases hji:j=i
     ·subst hji;rw[ho] at hj;cases hj;exact hpre e he hb
     ·rw[Ha hji] at hX;exact hD j o' hj hX e he hb
   ·intro x;by_cases hx:x∈s.dst.toList
    ·
     have hsp:l=l.take i++(s::l.drop (i+1)):=ZtX hsi;have hlt:(l.take i).length=i:=(by rw[Hs,hC.len];omega);rw[hsp,Zll,hlt];simp only[HE,cst];rw[Hb (by rw[hset i];simp)];rw[Zi1 (l.drop (i+1)) (i+1)]
     ·unfold Stp.app dput;rw[hdst];rw[hdst] at hx;cases hd:o.dst with
      | none=>rw[hd] at hx;simp at hx
      | some d =>
       rw[hd] at hx;simp only[Option.toList_some,Gw] at hx;subst hx;simp only;rw[Zbc,Zbc]
     ·intro j sj hj hm;rw[Gy] at hj;rw[hXi _ (by omega)];have:=hclash (i+1+j) sj hj (fun hlt=>by omega) (fun _=>by
       simp only[Zi0,Gj];exact .inl (.inl (.inl (.inl (.inl (meets_spec.2 ⟨x,by simpa[Stp.rc] using hx,by simpa[Stp.rc] using hm⟩)))))) (by omega)
      rw[this];simp;omega
    ·have e1:fget (dput o.dst s.v fr) x=fget fr x:=by
      have:=ZeO (s:=s) (st:=(fr,h)) hx;unfold Stp.app at this;rw[hdst] at this;exact this
     rw[e1,hf x];refine ZjY l 0 st st rfl (fun j sj hj hm=>?_);simp only[HE];by_cases hne:j=i
     ·subst hne;rw[hsi] at hj;cases hj;exact absurd hm hx
     ·rw[hXi j hne]
   ·intro x;by_cases hx:x∈s.upd.map Prod.fst
    ·have hsp:l=l.take i++(s::l.drop (i+1)):=by
      have h':=(List.getElem?_eq_some_iff.1 hsi).2;rw[←h'];simp
     have hlt:(l.take i).length=i:=(by rw[Hs,hC.len];omega);rw[hsp,Zll,hlt];simp only[HE,cst];rw[Hb (by rw[hset i];simp)];rw[Zgx (l.drop (i+1)) (i+1)]
     ·unfold Stp.app;obtain⟨ob,hob⟩:=Zh3 hx;rw[ZaL,ZaL,hob]
     ·intro j sj hj hm;rw[Gy] at hj;rw[hXi _ (by omega)];have:=hclash (i+1+j) sj hj (fun hlt=>by omega) (fun _=>by
       simp only[Zi0,Gj];exact .inl (.inl (.inr (meets_spec.2 ⟨x,hx,hm⟩)))) (by omega)
      rw[this];simp;omega
    ·have e1:Ah (s.upd++h) x=Ah h x:=(by rw[ZaL,ZcD hx]);rw[e1,hh x];refine ZjZ l 0 st st rfl (fun j sj hj hm=>?_);simp only[HE];by_cases hne:j=i
     ·subst hne;rw[hsi] at hj;cases hj;exact absurd hm hx
     ·rw[hXi j hne]
  have:=hstep G E fr h a w (wpAny P .any ops Q fuel (listed.setIfInBounds i true)) Q hP hn C hins' hobjs' hnext;unfold wpS at this;unfold wpOp;rw[ho];exact this
end
structure DLe (d d':D):Prop where
 size:d.size=d'.size
 rep:∀ M w cs,d.Rep M w cs→d'.Rep M w cs
structure DLes (ds ds':List D):Prop where
 len:ds.length=ds'.length
 size:D.sizes ds=D.sizes ds'
 all:∀ sz,(∀ x∈ds,x.size=sz)→∀ x∈ds',x.size=sz
 reps:∀ M w cs,D.Reps M w ds cs→D.Reps M w ds' cs
theorem DLe.refl (d:D):DLe d d:=⟨rfl,fun _ _ _ h=>h⟩
theorem DLe.nil (t:Bool) (sz:Nat):DLe (.raw (.slice none 0 0)) (.sl t sz []):=⟨rfl,fun M w cs h=>by
 simp only[D.Rep] at h ⊢;obtain⟨rfl,_⟩:=h;exact⟨none,0,[],by simp,by simp,by simp[maxLen],by simp,by simp[D.Reps],by simp⟩⟩
theorem DLes.nil:DLes [] []:=⟨rfl,rfl,by simp,fun _ _ _ h=>h⟩
theorem DLes.cons {d d':D} {ds ds':List D} (h1:DLe d d') (h2:DLes ds ds'):DLes (d::ds) (d'::ds'):=by
 refine⟨by simp[h2.len],by simp[D.sizes,h1.size,h2.size],fun sz hs x hx=>?_,fun M w cs h=>?_⟩
 ·rcases List.mem_cons.1 hx with rfl|hx
  ·rw[←h1.size];exact hs d (by simp)
  ·exact h2.all sz (fun y hy=>hs y (by simp[hy])) x hx
 ·simp only[D.Reps] at h ⊢;obtain⟨c,r,rfl,k1,k2⟩:=h;exact⟨c,r,rfl,h1.rep M w c k1,h2.reps M w r k2⟩
theorem DLe.agg {ds ds':List D} (h:DLes ds ds'):DLe (.agg ds) (.agg ds'):=⟨by simp[D.size,h.size],fun M w cs k=>by simp only[D.Rep] at k ⊢;exact h.reps M w cs k⟩
theorem DLe.sl {t:Bool} {sz:Nat} {ds ds':List D} (h:DLes ds ds'):DLe (.sl t sz ds) (.sl t sz ds'):=⟨rfl,fun M w cs k=>by
 simp only[D.Rep] at k ⊢;obtain⟨a,cap,us,rfl,h1,h2,h3,h4,h5⟩:=k;exact⟨a,cap,us,by rw[h.len],by rw[←h.len];exact h1,h2,h.all sz h3,h.reps M w us h4,fun hne=>h5 (by rintro rfl;exact hne (List.length_eq_zero_iff.1 h.len.symm))⟩⟩
structure VLe (v v':V):Prop where
 keys:v.keys=v'.keys
 rep:∀ E h M w u,V.Rep E h M w v u→V.Rep E h M w v' u
theorem VLe.refl (v:V):VLe v v:=⟨rfl,fun _ _ _ _ _ h=>h⟩
theorem VLe.agg {ds ds':List D} (h:DLes ds ds'):VLe (.d (.agg ds)) (.d (.agg ds')):=⟨rfl,fun E hp M w u k=>by
 simp only[V.Rep,D.RepV] at k ⊢;obtain⟨us,rfl,k⟩:=k;exact⟨us,rfl,h.reps M w us k⟩⟩
theorem VLe.sl {t:Bool} {sz:Nat} {ds ds':List D} (h:DLes ds ds'):VLe (.d (.sl t sz ds)) (.d (.sl t sz ds')):=⟨rfl,fun E hp M w u k=>by
 simp only[V.Rep,D.RepV] at k ⊢;exact (DLe.sl h).rep M w [u] k⟩
theorem VLe.nil (t:Bool) (sz:Nat):VLe (.d (.raw (.slice none 0 0))) (.d (.sl t sz [])):=⟨rfl,fun E hp M w u k=>by
 simp only[V.Rep,D.RepV] at k ⊢;exact (DLe.nil t sz).rep M w [u] k⟩
def VLes:List V→List V→Prop
 | [],[]=>True
 | v::vs,v'::vs'=>VLe v v'∧VLes vs vs'
 | _,_=>False
theorem VLes.keys:∀ {vs vs':List V},VLes vs vs'→V.keyss vs=V.keyss vs'
 | [],[],_=>rfl
 | v::vs,v'::vs',h=>by simp only[V.keyss,h.1.keys,VLes.keys h.2]
theorem VLes.reps {E:Env} {h:Hp} {M:Bars} {w:World}:∀ {vs vs':List V} {us:List Value},VLes vs vs'→V.Reps E h M w vs us→V.Reps E h M w vs' us
 | [],[],_,_,r=>r
 | v::vs,v'::vs',us,hl,r=>by
  simp only[V.Reps] at r ⊢;obtain⟨x,y,rfl,h1,h2⟩:=r;exact⟨x,y,rfl,hl.1.rep _ _ _ _ _ h1,hl.2.reps h2⟩
theorem DLes.refl (ds:List D):DLes ds ds:=⟨rfl,rfl,fun _ h=>h,fun _ _ _ h=>h⟩
theorem DLes.append {a a' b b':List D} (h1:DLes a a') (h2:DLes b b'):DLes (a++b) (a'++b'):=by
 refine⟨by simp[h1.len,h2.len],?_,fun sz hs x hx=>?_,fun M w cs h=>?_⟩
 ·have hz:∀ (p q:List D),D.sizes (p++q)=D.sizes p+D.sizes q:=by
   intro p q
   induction p with
   | nil=>simp[D.sizes]
   | cons x p ih=>simp only[Hv,D.sizes,ih];omega
  rw[hz,hz,h1.size,h2.size]
 ·rcases List.mem_append.1 hx with hx|hx
  ·exact h1.all sz (fun y hy=>hs y (by simp[hy])) x hx
  ·exact h2.all sz (fun y hy=>hs y (by simp[hy])) x hx
 ·obtain⟨k1,k2⟩:=D.Reps.split h;have:=(h1.reps M w _ k1).append (h2.reps M w _ k2)
  rwa [Gh] at this
theorem DLes.snoc {a b:List D} {x y:D} (e:b=a++[y]) (h:DLe x y):DLes (a++[x]) b:=by
 rw[e];exact (DLes.refl a).append (.cons h .nil)
theorem VLe.of {a b:V} (e:a=b):VLe a b:=e ▸ VLe.refl a
theorem VLe.d {a b:D} (h:DLe a b) (hr:∀ M w u,a.RepV M w u→b.RepV M w u):VLe (.d a) (.d b):=⟨rfl,fun E hp M w u k=>by simp only[V.Rep] at k ⊢;exact hr M w u k⟩
theorem VLes.refl:∀ (vs:List V),VLes vs vs
 | []=>trivial
 | v::vs=>⟨.refl v,VLes.refl vs⟩
inductive OLe:Ob→Ob→Prop
 | box {ty:TypeId} {cs cs':List V} (h:VLes cs cs'):OLe (.box ty cs) (.box ty cs')
 | row {e:TypeId} {sz:Nat} {xs xs':List D} (h:DLes xs xs'):OLe (.row e sz xs) (.row e sz xs')
 | froz {sz:Nat} {xs xs':List D} (h:DLes xs xs'):OLe (.froz sz xs) (.froz sz xs')
 | dead (n:Nat):OLe (.dead n) (.dead n)
 | nest {e:TypeId} {A A':List Tr} {r r':List (Nat×Nat)} {B B':List Tr} (hA:A=A') (hr:r=r') (hB:B=B'):OLe (.nest e A r B) (.nest e A' r' B')
 | mp {p q:List ((Int×Int×Int)×Int)→Prop} (h:∀ l,p l→q l):OLe (.mp p) (.mp q)
theorem OLe.refl:∀ (o:Ob),OLe o o
 | .box _ _=>.box (VLes.refl _)
 | .row _ _ _=>.row (DLes.refl _)
 | .froz _ _=>.froz (DLes.refl _)
 | .dead _=>.dead _
 | .nest ..=>.nest rfl rfl rfl
 | .mp _=>.mp (fun _ h=>h)
theorem OLe.keys {a b:Ob} (h:OLe a b):a.keys=b.keys:=by
 cases h with
 | box h=>simpa[Ob.keys] using h.keys
 | nest h1 h2 h3=>subst h2;rfl
 | _=>rfl
def Ap (h:Hp) (k:Nat) (o:Ob):Prop:=∃ o',Ah h k=some o'∧OLe o' o
theorem Ap.of {h:Hp} {k:Nat} {o:Ob} (e:Ah h k=some o):Ap h k o:=⟨o,e,.refl o⟩
def FLe (fr:Fr):Fr→Prop
 | []=>True
 | (i,v)::r=>VLe (fget fr i) v∧FLe fr r
def HLe (h:Hp):Hp→Prop
 | []=>True
 | (k,o)::r=>Ap h k o∧HLe h r
theorem FLe.get {fr:Fr}:∀ {g:Fr},FLe fr g→∀ i,fget g i=.junk∨VLe (fget fr i) (fget g i)
 | [],_,_=>.inl rfl
 | (j,v)::r,hs,i=>by
  simp only[FLe] at hs;simp only[fget];cases hb:Nat.beq j i with
  | true=>have:=HQ hb;subst this;exact .inr hs.1
  | false=>exact FLe.get hs.2 i
theorem HLe.get {h:Hp}:∀ {g:Hp},HLe h g→∀ k o,Ah g k=some o→Ap h k o
 | [],_,k,o,hk=>by simp[Ah] at hk
 | (j,v)::r,hs,k,o,hk=>by
  simp only[HLe] at hs;simp only[Ah] at hk;cases hb:Nat.beq j k with
  | true=>rw[hb] at hk;have:=HQ hb;subst this;cases hk;exact hs.1
  | false=>rw[hb] at hk;exact HLe.get hs.2 k o hk
theorem HLe.isSome {h g:Hp} (hs:HLe h g) {k:Nat} (hk:(Ah g k).isSome=true):(Ah h k).isSome=true:=by
 obtain⟨ob,hob⟩:=Option.isSome_iff_exists.1 hk;obtain⟨o',h1,_⟩:=hs.get k ob hob;rw[h1];rfl
theorem HLe.verAny {h g:Hp} (hs:HLe h g) {k m:Nat} (hk:(Ah g k).isSome=true) (hv:verAny h k m):verAny g k m:=by
 obtain⟨ob,hob⟩:=Option.isSome_iff_exists.1 hk;obtain⟨o',h1,h2⟩:=hs.get k ob hob;unfold Proofs.YtbpmepgnjanhnaaGreat.verAny at hv ⊢;rw[h1] at hv;rw[hob];cases h2 with
 | box _=>simp at hv
 | row hl =>
  rcases hv with ⟨_,_,_,h1,h2⟩|⟨_,_,h1,_⟩|h1|⟨_,_,_,_,h1,_⟩ <;> cases h1
  exact .inl ⟨_,_,_,rfl,hl.len.symm.trans h2⟩
 | froz hl =>
  rcases hv with ⟨_,_,_,h1,_⟩|⟨_,_,h1,h2⟩|h1|⟨_,_,_,_,h1,_⟩ <;> cases h1
  exact .inr (.inl ⟨_,_,rfl,hl.len.symm.trans h2⟩)
 | dead n=>exact hv
 | nest q1 q2 q3=>subst q1;subst q2;subst q3;exact hv
 | mp _=>simp at hv
theorem HLe.verRow {h g:Hp} (hs:HLe h g) {k sz m:Nat} (hv:verRow g k sz m):verRow h k sz m:=by
 rcases hv with ⟨e,xs,h1,h2⟩|⟨e,A,r,B,h1,h0,h2⟩
 ·obtain⟨o',h3,h4⟩:=hs.get k _ h1;cases h4 with
  | row hl=>exact .inl ⟨e,_,h3,hl.len.trans h2⟩
 ·obtain⟨o',h3,h4⟩:=hs.get k _ h1;cases h4 with
  | nest g1 g2 g3=>subst g1;subst g2;subst g3;exact .inr ⟨e,_,_,_,h3,h0,h2⟩
theorem HLe.Ai {h g:Hp} {E:Env} (hs:HLe h g) {k b:Nat} (hb:Ai E g k b):Ai E h k b:=by
 unfold Proofs.YtbpmepgnjanhnaaGreat.Ai at hb ⊢;cases hg:Ah g k with
 | none=>rw[hg] at hb;cases hb
 | some ob =>
  rw[hg] at hb;obtain⟨o',h1,h2⟩:=hs.get k ob hg;rw[h1];cases h2 <;> exact hb
theorem OLe.rep {E:Env} {h:Hp} {M:Bars} {w:World} {k:Nat} {a b:Ob} (hl:OLe a b) (hr:ObRep E h M w k a):ObRep E h M w k b:=by
 cases hl with
 | box hl =>
  obtain⟨us,g1,g2,g3⟩:=hr;exact⟨us,g1,hl.reps g2,g3⟩
 | row hl =>
  obtain⟨h0,h1⟩:=hr;refine⟨hl.all _ h0,?_⟩;rcases h1 with ⟨a,h1,h2⟩|⟨g,off,cap,cur,h1,h2,h3,h4,h5,h6,h7⟩
  ·subst h2;exact .inl ⟨a,h1,List.length_eq_zero_iff.1 hl.len.symm⟩
  ·exact .inr ⟨g,off,cap,cur,by rw[←hl.len];exact h1,h2,h3,by rw[←hl.len];exact h4,h5,h6,by rw[←hl.len];exact hl.reps _ _ _ h7⟩
 | froz hl=>exact (DLe.sl hl).rep _ _ _ hr
 | dead n=>exact hr
 | nest q1 q2 q3=>subst q1;subst q2;subst q3;exact hr
 | mp hl=>obtain⟨es,c,l,h1,h2,h3⟩:=hr;exact⟨es,c,l,h1,h2,hl _ h3⟩
theorem HLe.trans {h g:Hp} {E:Env} {o:Bars} {w:World} (hs:HLe h g):Trans E h (bars E h o) w E g (bars E g o) w:=by
 refine⟨fun _ _ _=>rfl,fun k hk m hv=>⟨m,hs.verAny hk hv,Hg _,fun _=>rfl⟩,fun k hk sz n hv=>⟨n,hs.verRow hv⟩,⟨fun t b _ hm=>⟨rfl,?_⟩,Hg _⟩⟩;rintro (⟨k,hk⟩|ho)
 ·exact hm (.inl ⟨k,hs.Ai hk⟩)
 ·exact hm (.inr ho)
section
variable {P:Program} {n:Nat}
theorem ZtY:∀ (l:List Stp) (i k:Nat) (st:Fr×Hp),cst (fun j=>decide (j < k+i)) l k st=cst (fun _=>true) (l.take i) k st
 | [],i,k,st=>by simp[cst]
 | s::r,0,k,st=>by
  simp only[GW,cst];rw[Ha (by simp)];have:∀ (r:List Stp) (m:Nat),k < m→cst (fun j=>decide (j < k+0)) r m st=st:=by
   intro r
   induction r with
   | nil=>intro m _;rfl
   | cons s r ih =>
    intro m hm;simp only[cst];rw[Ha (by simp;omega)];exact ih (m+1) (by omega)
  exact this r (k+1) (by omega)
 | s::r,i+1,k,st=>by
  simp only[GT,cst];rw[Hb (by simp)];simp only[if_true];rw[←ZtY r i (k+1)];congr 1;funext j;rw[show k+(i+1)=k+1+i by omega]
def ZDj (s:Stp) (fr:Fr) (h:Hp) (wr:Nat→Prop) (later:List Stp):Prop :=
 (s.pre=(fun h=>∀ p∈s.objs,Ah h p.1=p.2)∧∀ p∈s.objs,Ah h p.1=p.2) ∨
 (s.upd=[]∧∃ k p,s.pre=okp k p∧okp k p h∧¬ wr k∧∀ sj∈later,∀ q∈sj.upd,q.1=k→p q.2)
def wrOf (log:List Rec) (l:List Stp) (k:Nat):Prop:=(∃ r∈log,k∈r.wk)∨∃ s∈l,k∈s.upd.map Prod.fst
theorem Zi3 {dr:Bool} {ops:Array Oper}:∀ (rest:List Oper) (log:List Rec) (K:Exit→Fr→Hp→Prop) (fr:Fr) (h:Hp) (k:Nat),dops P n dr ops rest log K fr h →
  ∃ l:List Stp,l.length=rest.length∧(∀ m s o,l[m]? = some s→rest[m]? = some o→s.dst=o.dst∧LStepP P n ops (fun ch=>K (.panic ch)) o s.ins s.pre s.v s.upd ∧
    (∀ p∈s.ins,fget (cst (fun _=>true) (l.take m) k (fr,h)).1 p.1=p.2)∧ZDj s (cst (fun _=>true) (l.take m) k (fr,h)).1 (cst (fun _=>true) (l.take m) k (fr,h)).2 (wrOf log (l.take m)) (l.drop (m+1))) ∧
   (dr=true→Zga ops.toList (log.reverse++l.map Stp.rc)=true)∧K .normal (cst (fun _=>true) l k (fr,h)).1 (cst (fun _=>true) l k (fr,h)).2
 | [],log,K,fr,h,k,hd=>⟨[],rfl,by simp,by simpa using hd.1,hd.2⟩
 | o::rest,log,K,fr,h,k,hd=>by
  have hwr:∀ (s:Stp) (l:List Stp) (j:Nat),wrOf log (s::l) j→wrOf (s.rc::log) l j:=fun s l j hw=>by
   rcases hw with ⟨r,h1,h2⟩|⟨x,h1,h2⟩
   ·exact .inl ⟨r,by simp[h1],h2⟩
   ·rcases List.mem_cons.1 h1 with rfl|h1
    ·exact .inl ⟨x.rc,by simp,by simpa[Stp.rc] using h2⟩
    ·exact .inr ⟨x,h1,h2⟩
  have hok:∀ {s s0:Stp} {fr:Fr} {h:Hp} {l later:List Stp},ZDj s fr h (wrOf (s0.rc::log) l) later→ZDj s fr h (wrOf log (s0::l)) later:=fun {s s0 fr h l later} hs=>by
   rcases hs with hs|⟨h1,j,p,h2,h3,h4,h5⟩
   ·exact .inl hs
   ·exact .inr ⟨h1,j,p,h2,h3,fun hw=>h4 (hwr _ _ _ hw),h5⟩
  rcases hd with ⟨ins,objs,v,upd,hs,h1,h2,h3⟩|⟨ins,kk,p,v,hs,h1,h2,hlog,h3⟩
  ·obtain⟨l,g1,g2,g3,g4⟩:=Zi3 rest _ K _ _ (k+1) h3;refine⟨⟨o.dst,ins,objs,v,upd,fun h=>∀ p∈objs,Ah h p.1=p.2⟩::l,by simp[g1],fun m s o' hm ho=>?_,fun hdr=>?_,?_⟩
   ·match m with
    | 0 =>
     simp only[G3,Hx] at hm ho;subst hm;subst ho;exact⟨rfl,hs,by simpa[cst] using h1,.inl ⟨rfl,by simpa[cst] using h2⟩⟩
    | m+1 =>
     obtain⟨k1,k2,k3,k4⟩:=g2 m s o' (by simpa using hm) (by simpa using ho);refine⟨k1,k2,?_,?_⟩
     ·simpa[cst,Stp.app] using k3
     ·rw[GT,GZ];refine hok ?_;simpa[cst,Stp.app,Stp.rc] using k4
   ·have:=g3 hdr;simpa[Stp.rc] using this
   ·simpa[cst,Stp.app] using g4
  ·obtain⟨l,g1,g2,g3,g4,g5⟩:=Zi3 rest _ _ _ _ (k+1) h3;obtain⟨u,hu,hup⟩:=g5 rfl;refine⟨⟨o.dst,ins,[],v,[],okp kk p⟩::l,by simp[g1],fun m s o' hm ho=>?_,fun hdr=>?_,?_⟩
   ·match m with
    | 0 =>
     simp only[G3,Hx] at hm ho;subst hm;subst ho;refine⟨rfl,hs,by simpa[cst] using h1,.inr ⟨rfl,kk,p,rfl,by simpa[cst] using h2,?_,fun sj hj q hq=>?_⟩⟩
     ·rintro (⟨r,hr,hk⟩|⟨x,hx,_⟩)
      ·exact hlog r hr hk
      ·simp at hx
     ·rw[ZyS] at hu;have:=List.append_cancel_right hu;subst this;exact hup q (ZDi (by simpa using hj) q hq)
    | m+1 =>
     obtain⟨k1,k2,k3,k4⟩:=g2 m s o' (by simpa using hm) (by simpa using ho);refine⟨k1,k2.mono (fun _ _ _ q=>q.1),?_,?_⟩
     ·simpa[cst,Stp.app] using k3
     ·rw[GT,GZ];refine hok ?_;simpa[cst,Stp.app,Stp.rc] using k4
   ·have:=g3 hdr;simpa[Stp.rc] using this
   ·simpa[cst,Stp.app] using g4
def lift (G:Ctx) (Q:Exit→Fr→Hp→Prop):Exit→Act→World→Prop:=fun e a w=>∃ E fr h,Q e fr h∧An G E fr h a w
def aw (P:Program) (n:Nat) (c:Code) (Q:Exit→Fr→Hp→Prop) (fr:Fr) (h:Hp):Prop :=
 ∀ (G:Ctx) (E:Env) (a:Act) (w:World),G.n=n→An G E fr h a w→c.wp P (lift G Q) a w
variable {Q:Exit→Fr→Hp→Prop} {fr:Fr} {h:Hp}
theorem Zg6 (hq:Q .normal fr h):aw P n .skip Q fr h:=fun _ E _ _ _ C=>wp_skip ⟨E,fr,h,hq,C⟩
theorem Zg7 {id:Nat} (hq:Q (.exit id) fr h):aw P n (.exit id) Q fr h:=fun _ E _ _ _ C=>wp_exit ⟨E,fr,h,hq,C⟩
theorem Zqw (hq:Q .ret fr h):aw P n .ret Q fr h:=fun _ E _ _ _ C=>wp_ret ⟨E,fr,h,hq,C⟩
theorem ZfB {l:Nat} (hq:Q .normal fr h):aw P n (.label l) Q fr h:=fun _ E _ _ _ C=>wp_label ⟨E,fr,h,hq,C⟩
def andThen (K:Fr→Hp→Prop) (Q:Exit→Fr→Hp→Prop):Exit→Fr→Hp→Prop
 | .normal,fr,h=>K fr h
 | e,fr,h=>Q e fr h
theorem Ze6 {x y:Code} (hx:aw P n x (andThen (aw P n y Q) Q) fr h):aw P n (.seq x y) Q fr h:=fun G E a w hn C=>by
 refine wp_seq (wp_mono (hx G E a w hn C) fun e a' w' ⟨E',fr',h',hq,C'⟩=>?_);cases e with
 | normal=>exact hq G E' a' w' hn C'
 | _=>exact⟨E',fr',h',hq,C'⟩
def inBlock (id:Nat) (Q:Exit→Fr→Hp→Prop):Exit→Fr→Hp→Prop
 | .exit id',fr,h=>match Nat.beq id' id with
  | true=>Q .normal fr h
  | false=>Q (.exit id') fr h
 | e,fr,h=>Q e fr h
theorem ZfC {id:Nat} {c:Code} (hc:aw P n c (inBlock id Q) fr h):aw P n (.block id c) Q fr h:=fun G E a w hn C=>by
 refine wp_block (wp_mono (hc G E a w hn C) fun e a' w' ⟨E',fr',h',hq,C'⟩=>?_);cases e with
 | exit id' =>
  simp only[inBlock] at hq;by_cases e:id'=id
  ·subst e;rw[Gt] at hq;simp only[Exit.inBlock,if_true];exact⟨E',fr',h',hq,C'⟩
  ·have:Nat.beq id' id=false:=by cases q:Nat.beq id' id with|false=>rfl|true=>exact absurd (HQ q) e
   rw[this] at hq;simp only[Exit.inBlock,e,if_false];exact⟨E',fr',h',hq,C'⟩
 | _=>exact⟨E',fr',h',hq,C'⟩
def oev (fr:Fr):Operand→V
 | .tmp t=>fget fr t
 | .const (.agg cs)=>.agg (cs.toList.map fun v=>.d (.raw v))
 | .const (.tuple _)=>.junk
 | .const v=>.d (.raw v)
 | .global _=>.junk
 | .func f=>.fn (.func f) [] []
theorem ZyV {c:Operand} {x y:Code} {t:Bool} (hc:oev fr c=.d (.raw (.bool t))) (ht:t=true→aw P n x Q fr h) (hf:t=false→aw P n y Q fr h):aw P n (.cond c x y) Q fr h:=fun G E a w hn C=>by
 have hv:a.eval c=.bool t:=by
  cases c with
  | tmp i =>
   have:=C.frame i;simp only[oev] at hc;rw[hc] at this;simpa[V.Rep,D.RepV,D.Rep,Act.eval] using this.1
  | const v=>cases v <;> simp_all [oev,Act.eval]
  | global g=>simp[oev] at hc
  | func f=>simp[oev] at hc
 exact wp_cond_split hv (fun e=>ht e G E a w hn C) (fun e=>hf e G E a w hn C)
theorem ZDk {X:Type} {c:Code} (S:X→Fr→Hp→Prop) (μ:X→Nat) (x0:X) (h0:S x0 fr h) (round:∀ x fr h,S x fr h→aw P n c (andThen (fun fr h=>∃ x',S x' fr h∧μ x' < μ x) Q) fr h):aw P n (.loop c) Q fr h:=fun G E a w hn C=>by
 intro b k cs;have key:∀ (m:Nat) (x:X) (fr:Fr) (h:Hp) (E:Env) (a:Act) (w:World),μ x=m→S x fr h→An G E fr h a w →
   ∃ e a' w',lift G Q e a' w'∧Arrives P (lone (b.at a (.code c::.inLoop c::k)) cs w) b k cs e a' w':=by
  intro m
  induction m using Nat.strongRecOn with
  | _ m ih =>
   intro x fr h E a w hm hS C;obtain⟨e,a₁,w₁,⟨E',fr',h',hq,C'⟩,harr⟩:=round x fr h hS G E a w hn C b (.inLoop c::k) cs;cases e with
   | normal =>
    obtain⟨x',hS',hlt⟩:=hq;obtain⟨e₂,a₂,w₂,hq₂,harr₂⟩:=ih (μ x') (hm ▸ hlt) x' fr' h' E' a₁ w₁ rfl hS' C';exact⟨e₂,a₂,w₂,hq₂,.of_steps (Steps.trans harr (.one step_inLoop)) harr₂⟩
   | exit id=>exact⟨_,a₁,w₁,⟨E',fr',h',hq,C'⟩,.pass (x:=.inLoop c) rfl (fun _ _=>.inl (by simp)) harr⟩
   | goto l=>exact⟨_,a₁,w₁,⟨E',fr',h',hq,C'⟩,.pass (x:=.inLoop c) rfl (fun _ _=>.inl (by simp)) harr⟩
   | ret=>exact⟨_,a₁,w₁,⟨E',fr',h',hq,C'⟩,.pass (x:=.inLoop c) rfl (fun _ _=>.inl (by simp)) harr⟩
   | panic ch=>exact⟨_,a₁,w₁,⟨E',fr',h',hq,C'⟩,.pass (x:=.inLoop c) rfl (fun _ _=>.inl (by simp)) harr⟩
   | outgrown=>exact⟨_,a₁,w₁,⟨E',fr',h',hq,C'⟩,.pass (x:=.inLoop c) rfl (fun _ _=>.inl (by simp)) harr⟩
 obtain⟨e,a',w',hq,harr⟩:=key _ x0 fr h E a w rfl h0 C;exact⟨e,a',w',hq,.of_steps (.one step_loop) harr⟩
theorem Zg8 (N j:Nat):(Array.replicate N false).getD j false=false:=by
 simp only[Jd,Array.getElem?_replicate];split <;> rfl
theorem ZyW {id:Nat} {ops:Array Oper} {dr:Bool} (hm:P.follows .mixedOrders=true) (hd:dops P n dr ops ops.toList [] Q fr h):aw P n (.region id ops dr) Q fr h:=fun G E a w hn C=>by
 cases dr with
 | false=>exact wp_region_list (Zlk hn _ _ _ (fun E fr h a w hq C=>⟨E,fr,h,hq,C⟩) (fun ch E fr h a w hq C=>⟨E,fr,h,hq,C⟩) E fr h a w hd C)
 | true =>
  obtain⟨l,g1,g2,g3,g4⟩:=Zi3 _ _ _ fr h 0 hd;refine wp_region_any hm ?_;have hl:l.length=ops.size:=by simpa using g1
  refine ZyU (K:=Q) (G:=G) (l:=l) (st:=(fr,h)) hn (PS:=fun ch=>Q (.panic ch)) ⟨hl,fun i s o hi ho=>?_⟩ (fun ch E fr h a w hq C=>⟨E,fr,h,hq,C⟩) (by simpa using g3 rfl) g4 (fun E fr h a w hq C=>⟨E,fr,h,hq,C⟩) _ _ E fr h a _ (by simp) (by simp) ?_ ?_ ?_ C.drew
  ·obtain⟨k1,k2,k3,k4⟩:=g2 i s o hi (by simpa using ho);have e:=ZtY l i 0 (fr,h);simp only[HE] at e;refine⟨k1,k2,by rw[e];exact k3,fun X hF h' hh'=>?_⟩;rcases k4 with ⟨q1,q2⟩|⟨q1,kk,p,q2,q3,q4,q5⟩
   ·rw[q1];exact ZyT hi (by rw[e];exact q2) hF h' hh'
   ·rw[q2];have hil:i < l.length:=(List.getElem?_eq_some_iff.1 hi).1;have hnw:∀ j sj,l[j]? = some sj→j < i→kk ∉ sj.upd.map Prod.fst:=fun j sj hj hlt hm=>q4 (.inr ⟨sj,by
     have hj':=(List.getElem?_eq_some_iff.1 hj)
     rw[←hj'.2,List.mem_iff_getElem];exact⟨j,by simp;omega,by simp⟩,hm⟩)
    have h0:okp kk p (fr,h).2:=by
     obtain⟨ob,r1,r2⟩:=q3;refine⟨ob,?_,r2⟩;rw[←e,Zgx l 0 (fr,h) (fun j sj hj hm=>?_)] at r1
     ·exact r1
     ·simp only[HE,G4];exact fun hlt=>hnw j sj hj hlt hm
    obtain⟨ob,r1,r2⟩:=ZyR (X:=X) (k:=kk) (p:=p) l 0 (fr,h) h0 (fun j sj hj _ q hq hk=>by
     rcases G9 j i with hlt|rfl|hgt
     ·exact absurd (List.mem_map.2 ⟨q,hq,hk⟩) (hnw j sj hj hlt)
     ·rw[hi] at hj;cases hj;rw[q1] at hq;cases hq
     ·refine q5 sj ?_ q hq hk;have hj':=(List.getElem?_eq_some_iff.1 hj)
      rw[←hj'.2,List.mem_iff_getElem];have hjl:=hj'.1;exact⟨j - (i+1),by simp;omega,by simp[show i+1+(j - (i+1))=j by omega]⟩)
    exact⟨ob,by rw[hh' kk];exact r1,r2⟩
  ·intro j o hj hX;simp only[Zg8] at hX;cases hX
  ·intro x;rw[Zi1 l 0 (fr,h) (fun j s _ _=>Zg8 _ _)]
  ·intro x;rw[Zgx l 0 (fr,h) (fun j s _ _=>Zg8 _ _)]
def HSub (h:Hp):Hp→Prop
 | []=>True
 | (k,o)::r=>Ah h k=some o∧HSub h r
def Zh4 (h:Hp) (k:Nat):Bool:=match Ah h k with
 | some _=>true
 | none=>false
mutual
def V.inside (h:Hp):V→Bool
 | .d _|.full ..|.eptr ..|.opn _|.junk=>true
 | .own k _|.ptr k _|.optr k _ _ _|.mapv k=>Zh4 h k
 | .fn _ f c=>V.insides h f && V.insides h c
 | .agg cs=>V.insides h cs
 | .tup vs=>V.insides h vs
def V.insides (h:Hp):List V→Bool
 | []=>true
 | v::r=>v.inside h && V.insides h r
end
def Ob.inside (h:Hp):Ob→Bool
 | .box _ cs=>V.insides h cs
 | .nest _ _ r _=>r.all fun p=>Zh4 h p.1
 | _=>true
def frIn (h:Hp):Fr→Bool
 | []=>true
 | (_,v)::r=>v.inside h && frIn h r
def hpIn (h:Hp):Hp→Bool
 | []=>true
 | (_,o)::r=>o.inside h && hpIn h r
theorem hasKey_spec {h:Hp} {k:Nat}:Zh4 h k=true↔(Ah h k).isSome=true:=by
 unfold Zh4;cases Ah h k <;> simp
mutual
theorem V.inside_spec {h:Hp}:∀ {v:V},v.inside h=true→∀ k∈v.keys,(Ah h k).isSome=true
 | .d _,_=>by simp[V.keys]
 | .full ..,_=>by simp[V.keys]
 | .eptr ..,_=>by simp[V.keys]
 | .junk,_=>by simp[V.keys]
 | .opn _,_=>by simp[V.keys]
 | .mapv k,hi=>by simp only[V.inside,hasKey_spec] at hi;simpa[V.keys] using hi
 | .own k _,hi=>by simp only[V.inside,hasKey_spec] at hi;simpa[V.keys] using hi
 | .ptr k _,hi=>by simp only[V.inside,hasKey_spec] at hi;simpa[V.keys] using hi
 | .optr k _ _ _,hi=>by simp only[V.inside,hasKey_spec] at hi;simpa[V.keys] using hi
 | .fn _ f c,hi=>by
  simp only[V.inside,Hr] at hi;simp only[V.keys,HV];rintro k (hk|hk)
  ·exact V.insides_spec hi.1 k hk
  ·exact V.insides_spec hi.2 k hk
 | .agg cs,hi=>by simp only[V.inside] at hi;simp only[V.keys];exact V.insides_spec hi
 | .tup cs,hi=>by simp only[V.inside] at hi;simp only[V.keys];exact V.insides_spec hi
theorem V.insides_spec {h:Hp}:∀ {vs:List V},V.insides h vs=true→∀ k∈V.keyss vs,(Ah h k).isSome=true
 | [],_=>by simp[V.keyss]
 | v::vs,hi=>by
  simp only[V.insides,Hr] at hi;simp only[V.keyss,HV];rintro k (hk|hk)
  ·exact V.inside_spec hi.1 k hk
  ·exact V.insides_spec hi.2 k hk
end
theorem Zc5 {h:Hp}:∀ {fr:Fr},frIn h fr=true→∀ i,∀ k∈(fget fr i).keys,(Ah h k).isSome=true
 | [],_,i=>by simp[fget,V.keys]
 | (j,v)::r,hi,i=>by
  simp only[frIn,Hr] at hi;simp only[fget];cases Nat.beq j i with
  | true=>exact V.inside_spec hi.1
  | false=>exact Zc5 hi.2 i
theorem Ob.inside_spec {h:Hp} {o:Ob} (hi:o.inside h=true):∀ k∈o.keys,(Ah h k).isSome=true:=by
 cases o with
 | box ty cs=>exact V.insides_spec hi
 | row _ _ _=>simp[Ob.keys]
 | froz _ _=>simp[Ob.keys]
 | dead _=>simp[Ob.keys]
 | mp _=>simp[Ob.keys]
 | nest e A r B =>
  simp only[Ob.inside,HR,hasKey_spec] at hi;simp only[Ob.keys,Gv];rintro k ⟨p,hp,rfl⟩;exact hi p hp
theorem Zc6 {h:Hp}:∀ {g:Hp},hpIn h g=true→∀ k o,Ah g k=some o→∀ j∈o.keys,(Ah h j).isSome=true
 | [],_,k,o,hk=>by simp[Ah] at hk
 | (j,v)::r,hi,k,o,hk=>by
  simp only[hpIn,Hr] at hi;simp only[Ah] at hk;cases hb:Nat.beq j k with
  | true=>rw[hb] at hk;cases hk;exact Ob.inside_spec hi.1
  | false=>rw[hb] at hk;exact Zc6 hi.2 k o hk
section
variable {E:Env} {g:Hp} {o:Bars} {w:World}
theorem HRep.sub (H:HRep E h o w) (hs:HLe h g) (hc:hpIn g g=true):HRep E g o w:=by
 refine⟨fun k ob hk=>?_,fun k k' b h1 h2=>H.apart k k' b (hs.Ai h1) (hs.Ai h2),fun k ob hk=>Zc6 hc k ob hk⟩;obtain⟨o',h1,h2⟩:=hs.get k ob hk;have T:=HLe.trans (E:=E) (o:=o) (w:=w) hs;exact h2.rep (ObRep.move T h1 rfl rfl rfl (fun _ _=>rfl) (H.closed k _ h1) (by rw[h2.keys];exact Zc6 hc k _ hk) (H.obs k o' h1))
end
theorem An.weak {G:Ctx} {E:Env} {fr':Fr} {h':Hp} {a:Act} {w:World} (C:An G E fr h a w) (hf:FLe fr fr') (hh:HLe h h') (hi:(frIn h' fr' && hpIn h' h')=true):An G E fr' h' a w:=by
 simp only[Hr] at hi;have T:=HLe.trans (E:=E) (o:=G.o) (w:=w) hh;refine⟨C.size,C.defers,fun i=>?_,C.heap.sub hh hi.2,Zc5 hi.1,C.ext,fun k b hb=>C.fresh k b (hh.Ai hb),fun k hk hs=>?_,C.outer,C.sub⟩
 ·rcases hf.get i with e|e
  ·rw[e];simp[V.Rep]
  ·have hc:=Zc5 hi.1 i;exact (e.rep _ _ _ _ _ (C.frame i)).move T (by rw[←e.keys];exact C.closed i) hc
 ·obtain⟨g0,g1,g2,g3⟩:=C.keep k hk (hh.isSome hs);refine⟨g0,g1,fun m hm=>?_,fun sz n hv=>g3 sz n (hh.verRow hv)⟩;obtain⟨m',k1,k2,k3⟩:=g2 m hm;exact⟨m',hh.verAny hs k1,k2,k3⟩
theorem Zr7 {c:Code} (fr':Fr) (h':Hp) (hf:FLe fr fr') (hh:HLe h h') (hi:(frIn h' fr' && hpIn h' h')=true) (hc:aw P n c Q fr' h'):aw P n c Q fr h :=
 fun G E a w hn C=>hc G E a w hn (C.weak hf hh hi)
end
def Co (h:Hp) (v v':V):Prop:=∀ (E:Env) (o:Bars) (w:World) (u:Value),HRep E h o w→(∀ b,o true b→o false b)→V.Rep E h (bars E h o) w v u→V.Rep E h (bars E h o) w v' u
def Cos (h:Hp):List V→List V→Prop
 | [],[]=>True
 | v::vs,v'::vs'=>Co h v v'∧Cos h vs vs'
 | _,_=>False
section
variable {h:Hp}
theorem Co.refl (v:V):Co h v v:=fun _ _ _ _ _ _ r=>r
theorem Cos.reps:∀ {vs vs':List V},Cos h vs vs'→∀ {E:Env} {o:Bars} {w:World} {us:List Value},HRep E h o w→(∀ b,o true b→o false b)→V.Reps E h (bars E h o) w vs us→V.Reps E h (bars E h o) w vs' us
 | [],[],_,_,_,_,_,_,_,r=>r
 | v::vs,v'::vs',hc,E,o,w,us,H,s,r=>by
  simp only[Cos] at hc;simp only[V.Reps] at r ⊢;obtain⟨x,y,h1,h2,h3⟩:=r;exact⟨x,y,h1,hc.1 E o w x H s h2,Cos.reps hc.2 H s h3⟩
 | [],_::_,hc,_,_,_,_,_,_,_=>by simp[Cos] at hc
 | _::_,[],hc,_,_,_,_,_,_,_=>by simp[Cos] at hc
theorem Cos.refl:∀ (vs:List V),Cos h vs vs
 | []=>trivial
 | v::vs=>⟨Co.refl v,Cos.refl vs⟩
theorem Co.tup {vs vs':List V} (hc:Cos h vs vs'):Co h (.tup vs) (.tup vs'):=fun E o w u H s r=>by
 simp only[V.Rep] at r ⊢;obtain⟨us,h1,h2⟩:=r;exact⟨us,h1,hc.reps H s h2⟩
theorem ZtZ {E:Env} {M:Bars} {w:World}:∀ {xs:List D} {us:List Value},V.Reps E h M w (xs.map V.d) us→(∀ x∈us,x.oneCell'=true)→D.Reps M w xs us
 | [],_,r,_=>by simp only[HF,V.Reps] at r;simp only[D.Reps];exact r
 | x::xs,_,r,h1=>by
  simp only[Hm,V.Reps] at r;obtain⟨u,y,rfl,h2,h3⟩:=r;simp only[D.Reps];refine⟨[u],y,rfl,?_,ZtZ h3 (fun z hz=>h1 z (by simp[hz]))⟩;simp only[V.Rep] at h2;cases x with
  | agg fs=>obtain⟨us,rfl,_⟩:=h2;have:=h1 (.agg us.toArray) (by simp);simp[Value.oneCell'] at this
  | raw v=>exact h2
  | sl t sz es=>exact h2
theorem Co.agg {cs:List V} {xs:List D} (hc:Cos h cs (xs.map V.d)):Co h (.agg cs) (.d (.agg xs)):=fun E o w u H s r=>by
 simp only[V.Rep] at r ⊢;obtain⟨us,h1,h2,h3⟩:=r;exact⟨us,h1,ZtZ (hc.reps H s h2) h3⟩
theorem Co.nil (t:Bool) (sz:Nat):Co h (.d (.raw (.slice none 0 0))) (.d (.sl t sz [])):=fun E o w u _ _ r=>by
 simp only[V.Rep,D.RepV,D.Rep,Hz,HA] at r ⊢;obtain⟨rfl,_⟩:=r;exact⟨none,0,[],by simp,by simp,by simp[maxLen],by simp,by simp[D.Reps],by simp⟩
theorem Co.froz {k n sz:Nat} {xs:List D} (hk:Ah h k=some (.froz sz xs)) (hn:n=xs.length):Co h (.own k n) (.d (.sl false sz xs)):=fun E o w u H _ r=>by
 simp only[V.Rep] at r ⊢;obtain⟨m,h1,h2,_,h3⟩:=r;have hm:m=n:=Za9 h1 (.inr (.inl ⟨sz,xs,hk,hn.symm⟩));rw[h3 hm.symm];exact H.obs k _ hk
theorem Co.full (t:Bool) (sz:Nat) (es:List D):Co h (.full t sz es) (.d (.sl t sz es)):=fun _ _ _ _ _ _ r=>by
 simp only[V.Rep] at r ⊢;exact r.1
theorem Co.view (x:D):Co h (.d x) (.d x.view):=fun E o w u _ s r=>by
 have hM:∀ k,bars E h o true k→bars E h o false k:=fun k hk=>by
  rcases hk with hk|hk
  ·exact .inl hk
  ·exact .inr (s k hk)
 simp only[V.Rep] at r ⊢;cases x with
 | raw v=>exact r
 | sl t sz es=>exact D.Rep.view (d:=.sl t sz es) hM r
 | agg fs=>obtain⟨us,h1,h2⟩:=r;exact⟨us,h1,h2.view hM⟩
end
def FnOk (P:Program) (f:FuncId):Prop:=∃ fn,P.funcs[f]? = some fn∧(fn.name == "runtime.NumGoroutine")=false∧fn.body.isNone=false
structure Zr8 (P:Program) (mk:Value→Ending) (f:FuncId) (args:List V) (h:Hp) (r:V) (h':Hp):Prop where
 ok:FnOk P f
 run:∀ (E:Env) (w:World) (us:List Value) (o:Bars),HRep E h o w→V.Reps E h (bars E h o) w args us→(∀ k∈V.keyss args,(Ah h k).isSome=true) →
  (∀ t b,o t b→b < w.heap.size∧¬ Live E h b)→(∀ b,o true b→o false b) →
  Calls P f us.toArray w fun e w'=>∃ E' u,e=mk u∧HRep E' h' o w'∧V.Rep E' h' (bars E' h' o) w' r u∧(∀ k∈r.keys,(Ah h' k).isSome=true)∧Ext (Live E h) w w' ∧
   Hist E h E' h'∧(∀ k b,Ai E' h' k b→Live E h b∨w.heap.size≤b)
abbrev Af (P:Program) (f:FuncId) (args:List V) (h:Hp) (r:V) (h':Hp):Prop:=Zr8 P .returned f args h r h'
def pan1 (u:Value):Ending:=.panicked [{ v:=u,recovered:=false }]
abbrev APan (P:Program) (f:FuncId) (args:List V) (h:Hp) (u:Value) (h':Hp):Prop:=Zr8 P pan1 f args h (.d (.raw u)) h'
inductive ResIs (P:Program) (fr:Fr) (h:Hp):ResultVar→V→Prop
 | tmp (t:Tmp):ResIs P fr h (.tmp t) (fget fr t)
 | agg (t:Tmp) (ty k bt:Nat) (cs:List V) (ds:TypeDesc) (hp:fget fr t=.ptr k 0) (hk:Ah h k=some (.box bt cs)) (hu:P.underlying ty=some ds) (hd:ds.isRow=true) (hi:(P.info? ty).map (·.size)=some cs.length):ResIs P fr h (.cell t ty) (.agg cs)
 | one (t:Tmp) (ty k bt:Nat) (c:V) (ds:TypeDesc) (hp:fget fr t=.ptr k 0) (hk:Ah h k=some (.box bt [c])) (hu:P.underlying ty=some ds) (hd:ds.isRow=false):ResIs P fr h (.cell t ty) c
def Results (P:Program) (fr:Fr) (h:Hp):List ResultVar→List V→Prop
 | [],[]=>True
 | r::rs,v::vs=>ResIs P fr h r v∧Results P fr h rs vs
 | _,_=>False
def resV:List V→V
 | [v]=>v
 | vs=>.tup vs
theorem Zgb {P:Program} (w:World) (ty:TypeId) (a:Addr) (ds:TypeDesc) (u:Value) (hu:P.underlying ty=some ds) (hd:ds.isRow=false) (hc:w.cell? a=some u):(loadVar ty a).run P w=.ok u w:=by
 have hagg:(isAgg ty).run P w=.ok false w:=by
  unfold isAgg;rw[Sem.run_bind,run_underlying hu w];cases ds <;> simp_all [TypeDesc.isRow]
 simp[loadVar,Sem.run_bind,hagg,hc]
section
variable {P:Program} {G:Ctx} {E:Env} {fr:Fr} {h:Hp} {a:Act} {w:World}
def Zlm (tmps:Array Value):ResultVar→Sem Value:=fun
  | .tmp t=>pure (tmps.getD t undef)
  | .cell a t=>do loadVar t (←asAddr (tmps.getD a undef))
theorem ResIs.run (C:An G E fr h a w) {rv:ResultVar} {v:V} (hr:ResIs P fr h rv v):∃ u,(Zlm a.tmps rv).run P w=.ok u w∧V.Rep E h (bars E h G.o) w v u∧∀ k∈v.keys,(Ah h k).isSome=true:=by
 cases hr with
 | tmp t=>exact⟨_,rfl,C.frame t,C.closed t⟩
 | agg t ty k bt cs ds hp hk hu hd hi =>
  have hf:=C.frame t;rw[hp] at hf;simp only[V.Rep] at hf;obtain⟨us,g1,g2,g3⟩:=C.heap.obs k _ hk;have hl:=g2.length;refine⟨.agg us.toArray,?_,?_,?_⟩
  ·have:=run_loadVar_row (P:=P) w (E.blk k) bt ty us.toArray (0,0) ds g1 hu (by cases ds <;> simp_all [TypeDesc.isRow]) (by simpa[hl] using hi);simp[Zlm,hf,asAddr,this]
  ·simp only[V.Rep];exact⟨us,rfl,g2,g3⟩
  ·simpa[V.keys,Ob.keys] using C.heap.closed k _ hk
 | one t ty k bt c ds hp hk hu hd =>
  have hf:=C.frame t;rw[hp] at hf;simp only[V.Rep] at hf;obtain⟨us,g1,g2,g3⟩:=C.heap.obs k _ hk;simp only[V.Reps] at g2;obtain⟨u,y,rfl,g4,rfl⟩:=g2;refine⟨u,?_,g4,?_⟩
  ·have:=Zgb (P:=P) w ty ⟨E.blk k,0,none⟩ ds u hu hd (by rw[cell_of_row w _ 0 _ bt _ g1];simp);simp[Zlm,hf,asAddr,this]
  ·simpa[V.keys,Ob.keys,V.keyss] using C.heap.closed k _ hk
theorem Results.run (C:An G E fr h a w):∀ {rs:List ResultVar} {vs:List V},Results P fr h rs vs→∃ us:List Value,(rs.mapM (Zlm a.tmps)).run P w=.ok us w∧V.Reps E h (bars E h G.o) w vs us∧∀ k∈V.keyss vs,(Ah h k).isSome=true
 | [],[],_=>⟨[],by simp,by simp[V.Reps],by simp[V.keyss]⟩
 | r::rs,v::vs,hr=>by
  simp only[Results] at hr;obtain⟨u,h1,h2,h3⟩:=hr.1.run C;obtain⟨us,k1,k2,k3⟩:=Results.run C hr.2;refine⟨u::us,?_,?_,?_⟩
  ·simp[List.mapM_cons,h1,k1]
  ·simp only[V.Reps];exact⟨u,us,rfl,h2,k2⟩
  ·simp only[V.keyss,HV];rintro k (hk|hk)
   ·exact h3 k hk
   ·exact k3 k hk
 | [],_::_,hr=>by simp[Results] at hr
 | _::_,[],hr=>by simp[Results] at hr
theorem Zei (C:An G E fr h a w) {fn:Func} {rs:List ResultVar} {vs:List V} (he:fn.results.toList=rs) (hr:Results P fr h rs vs) :
  ∃ u,(results fn a.tmps).run P w=.ok u w∧V.Rep E h (bars E h G.o) w (resV vs) u∧∀ k∈(resV vs).keys,(Ah h k).isSome=true:=by
 obtain⟨us,h1,h2,h3⟩:=hr.run C;have e:fn.results=rs.toArray:=by rw[←he]
 have hl:=h2.length;have hrun:(results fn a.tmps).run P w=.ok (if hh:us.toArray.size=1 then us.toArray[0] else .tuple us.toArray) w:=by
  have:(rs.toArray.mapM (Zlm a.tmps)).run P w=.ok us.toArray w:=by
   rw[List.mapM_toArray];simp[h1]
  have e2:results fn a.tmps=(rs.toArray.mapM (Zlm a.tmps)) >>= fun vs=>pure (if hh:vs.size=1 then vs[0] else .tuple vs):=by
   unfold results;rw[e];have:∀ (f g:ResultVar→Sem Value),(∀ x,f x=g x)→Array.mapM f rs.toArray=Array.mapM g rs.toArray:=fun f g hfg=>by rw[funext hfg]
   rw[this _ (Zlm a.tmps) (fun x=>by cases x <;> rfl)]
  rw[e2,Sem.run_bind,this];simp
 refine⟨_,hrun,?_,?_⟩
 ·match vs,us,hl,h2 with
  | [v],[u],_,h2 =>
   simp only[V.Reps] at h2;obtain⟨x,y,hxy,h4,_⟩:=h2;simp only[Hz] at hxy;simpa[resV,hxy.1] using h4
  | [],[],_,h2=>simp only[resV,V.Rep];exact⟨[],by simp,h2⟩
  | v::v'::vs,u::u'::us,_,h2 =>
   simp only[resV,V.Rep];exact⟨_,by simp,h2⟩
 ·match vs,h3 with
  | [v],h3=>simpa[resV,V.keyss] using h3
  | [],h3=>simpa[resV,V.keys] using h3
  | v::v'::vs,h3=>simpa[resV,V.keys] using h3
end
def Fin (P:Program) (fn:Func) (r:V) (h':Hp):Exit→Fr→Hp→Prop
 | .normal,fr,h|.ret,fr,h=>∃ vs,Results P fr h fn.results.toList vs∧Co h (resV vs) r∧HLe h h'∧(r.inside h' && hpIn h' h')=true
 | _,_,_=>False
def Zal:Nat→List V→Fr
 | _,[]=>[]
 | i,v::vs=>(i,v)::Zal (i+1) vs
def ZfD:Hp→Bool
 | []=>true
 | (k,_)::r=>Nat.ble 1000 k && ZfD r
theorem ZdI:∀ {h:Hp},ZfD h=true→∀ k,(Ah h k).isSome=true→1000≤k
 | [],_,k,hk=>by simp[Ah] at hk
 | (j,o)::r,ha,k,hk=>by
  simp only[ZfD,Hr] at ha;simp only[Ah] at hk;cases hb:Nat.beq j k with
  | true=>have:=HQ hb;subst this;exact Jf ha.1
  | false=>rw[hb] at hk;exact ZdI ha.2 k hk
theorem Zln {E:Env} {h:Hp} {M:Bars} {w:World}:∀ {vs:List V} {us:List Value},V.Reps E h M w vs us→∀ (i j:Nat),V.Rep E h M w (fget (Zal i vs) j) (if i≤j then us.getD (j - i) undef else undef)
 | [],us,_,i,j=>by simp[Zal,fget,V.Rep]
 | v::vs,us,r,i,j=>by
  simp only[V.Reps] at r;obtain⟨u,y,rfl,h2,h3⟩:=r;simp only[Zal];by_cases e:i=j
  ·subst e;rw[Zbc];simpa using h2
  ·rw[Za8 _ _ e];have:=Zln h3 (i+1) j;by_cases hle:i+1≤j
   ·rw[Hb hle] at this;rw[Hb (by omega)];have e2:j - i=(j - (i+1))+1:=(by omega);rw[e2];simpa using this
   ·have hfg:∀ (vs:List V) (i:Nat),j < i→fget (Zal i vs) j=.junk:=by
     intro vs
     induction vs with
     | nil=>intro i _;rfl
     | cons v vs ih=>intro i hi;simp only[Zal];rw[Za8 _ _ (by omega)];exact ih (i+1) (by omega)
    rw[hfg vs (i+1) (by omega)];simp[V.Rep]
theorem Zi4:∀ (vs:List V) (i j:Nat),∀ k∈(fget (Zal i vs) j).keys,k∈V.keyss vs
 | [],i,j=>by simp[Zal,fget,V.keys]
 | v::vs,i,j=>by
  simp only[Zal];intro k hk;by_cases e:i=j
  ·subst e;rw[Zbc] at hk;simp[V.keyss,hk]
  ·rw[Za8 _ _ e] at hk;simp[V.keyss,Zi4 vs (i+1) j k hk]
theorem Af.intro {P:Program} {f:FuncId} {fn:Func} {c:Code} {n:Nat} {args:List V} {h:Hp} {r:V} {h':Hp} (hf:P.funcs[f]? = some fn) (hb:fn.body=some c:=by exact rfl) (hn:fn.ntmps=n:=by exact rfl) (ha:args.length≤n:=by simp) (hnm:(fn.name == "runtime.NumGoroutine")=false:=by rfl)
  (hw:aw P n c (Fin P fn r h') (Zal 0 args) h):Af P f args h r h':=by
 refine⟨⟨fn,hf,hnm,by rw[hb];rfl⟩,?_⟩;intro E w us o H hr hk ho hs;refine calls_of_wp hf hb ?_;have hl:=hr.length
 let G:Ctx:=⟨n,w,Live E h,E,h,o,[]⟩
 have C:An G E (Zal 0 args) h { tmps:=us.toArray++Array.replicate (fn.ntmps - us.toArray.size) undef,defers:=[] } w:=by
  refine⟨by simp[G,hn];omega,rfl,fun i=>?_,H,fun i k hi=>hk k (Zi4 args 0 i k hi),Ext.refl _ _,fun k b hb=>.inl ⟨k,hb⟩,fun k hk hsm=>⟨hsm,rfl,fun m hm=>⟨m,hm,Hg _,fun _=>rfl⟩,fun sz n hv=>⟨n,hv⟩⟩,ho,hs⟩;have:=Zln hr 0 i;rw[Hb (Hh _),Jn] at this;have e:(us.toArray++Array.replicate (fn.ntmps - us.toArray.size) undef).getD i undef=us.getD i undef:=by
   simp only[Jd,Hf];rw[Array.getElem?_append];simp only[JB,JU,Array.getElem?_replicate];by_cases h1:i < us.length
   ·rw[Hb h1]
   ·rw[Ha h1,HI (by omega)];split <;> rfl
  show V.Rep E h (bars E h o) w _ ((us.toArray++Array.replicate (fn.ntmps - us.toArray.size) undef).getD i undef);rw[e];exact this
 refine wp_mono (hw G E _ w rfl C) fun e a w' ⟨E',fr',g,hq,C'⟩=>?_
 have fin:(∃ vs,Results P fr' g fn.results.toList vs∧Co g (resV vs) r∧HLe g h'∧(r.inside h' && hpIn h' h')=true)→a.defers=[]∧∃ v,(results fn a.tmps).run P w'=.ok v w' ∧
   ∃ E' u,Ending.returned v=.returned u∧HRep E' h' o w'∧V.Rep E' h' (bars E' h' o) w' r u∧(∀ k∈r.keys,(Ah h' k).isSome=true)∧Ext (Live E h) w w'∧Hist E h E' h'∧(∀ k b,Ai E' h' k b→Live E h b∨w.heap.size≤b):=by
  rintro⟨vs,k1,k2,k3,k4⟩;simp only[Hr] at k4;obtain⟨u,q1,q2,q3⟩:=Zei C' rfl k1;refine⟨C'.defers,u,q1,E',u,rfl,C'.heap.sub k3 k4.2,?_,V.inside_spec k4.1,C'.ext,fun k hk hsm=>?_,fun k b hb=>C'.fresh k b (k3.Ai hb)⟩
  ·have hkr:∀ k∈r.keys,(Ah h' k).isSome=true:=V.inside_spec k4.1
   exact V.Rep.move (HLe.trans k3) (fun k hk=>k3.isSome (hkr k hk)) hkr (k2 E' o w' u C'.heap hs q2)
  ·obtain⟨g0,g1,g2,g3⟩:=C'.keep k hk (k3.isSome hsm);refine⟨g0,g1,fun m hm=>?_,fun sz n hv=>g3 sz n (k3.verRow hv)⟩;obtain⟨m',l1,l2,l3⟩:=g2 m hm;exact⟨m',k3.verAny hsm l1,l2,l3⟩
 cases e with
 | normal=>exact fin hq
 | ret=>exact fin hq
 | exit id=>exact hq
 | goto l=>exact hq
 | panic ch=>exact hq.elim
 | outgrown=>exact hq.elim
section
variable {P:Program} {n:Nat} {G:Ctx} {E:Env} {fr:Fr} {h:Hp} {a:Act} {w:World} {Q:Exit→Fr→Hp→Prop}
theorem An.re (C:An G E fr h a w) (i:Nat) {v:V} (hv:Co h (fget fr i) v) (hk:v.inside h=true):An G E ((i,v)::fr) h a w:=by
 refine⟨C.size,C.defers,fun j=>?_,C.heap,fun j=>?_,C.ext,C.fresh,C.keep,C.outer,C.sub⟩
 ·by_cases e:i=j
  ·subst e;rw[Zbc];exact hv E G.o w _ C.heap C.sub (C.frame i)
  ·rw[Za8 _ _ e];exact C.frame j
 ·by_cases e:i=j
  ·subst e;rw[Zbc];exact V.inside_spec hk
  ·rw[Za8 _ _ e];exact C.closed j
theorem ZyX {c:Code} (i:Nat) {v:V} (hv:Co h (fget fr i) v) (hk:v.inside h=true) (hc:aw P n c Q ((i,v)::fr) h):aw P n c Q fr h :=
 fun G E a w hn C=>hc G E a w hn (C.re i hv hk)
theorem Upd.froz {k e sz:Nat} {xs:List D} (hk:Ah h k=some (.row e sz xs)):Upd E h w k (.froz sz xs) E w :=
 ⟨fun _ _=>rfl,fun _ _=>rfl,fun _ _=>rfl,fun _=>rfl,(fun hn=>by rw[hk] at hn;cases hn),
  fun m hm=>⟨m,.inr (.inl ⟨sz,xs,Zai _ _ _,(by
   rcases hm with ⟨e',sz',xs',h1,h2⟩|⟨sz',xs',h1,h2⟩|h1|⟨_,_,_,_,h1,_⟩
   ·rw[hk] at h1;cases h1;exact h2
   ·rw[hk] at h1;cases h1
   ·rw[hk] at h1;cases h1
   ·rw[hk] at h1;cases h1)⟩),Hg _,fun _=>rfl⟩,
  (fun _ sz' n' hv=>by rcases hv with ⟨_,_,h1,_⟩|⟨_,_,_,_,h1,_⟩ <;> (rw[Zai] at h1;cases h1)),
  Ext.refl _ _,(fun b hb=>by unfold Ai at hb;rw[Zai] at hb;cases hb)⟩
theorem An.froz (C:An G E fr h a w) {k e sz:Nat} {xs:List D} (hk:Ah h k=some (.row e sz xs)):An G E fr ((k,.froz sz xs)::h) a w:=by
 have U:=Upd.froz (E:=E) (w:=w) hk;refine C.upd U ?_ (by simp[Ob.keys]);have hr:=C.heap.obs k _ hk;simp only[ObRep] at hr ⊢;have hr':=hr;simp only[D.Rep];obtain⟨ad,cap,h1,h2,h3⟩:=hr.shape;by_cases hne:xs=[]
 ·subst hne;exact⟨ad,cap,[],by simp[h1],h2,h3,by simp,by simp[D.Reps],by simp⟩
 ·obtain⟨g,off,cap',us,k1,k2,k3,k4,k5,k6⟩:=hr'.cells hne;rw[h1] at k1;simp only[Value.slice.injEq] at k1;obtain⟨rfl,_,rfl⟩:=k1;have hgl:Ai E h k g:=by simp[Ai,hk,k2]
  refine⟨_,cap,us,by rw[h1],h2,h3,hr'.1,k3.carry (U.carry G.o),fun _=>⟨g,off,rfl,?_,k5,k6⟩⟩;rintro (⟨j,hj⟩|ho)
  ·by_cases e:j=k
   ·subst e;unfold Ai at hj;rw[Zai] at hj;cases hj
   ·rw[U.blkOf_other e] at hj;exact e (C.heap.apart j k g hj hgl)
  ·obtain⟨o1,o2⟩:=C.outer _ _ ho;rcases C.fresh k g hgl with f1|f1
   ·exact o2 f1
   ·omega
theorem Zaz {c:Code} (k:Nat) {e sz:Nat} {xs:List D} (hk:Ah h k=some (.row e sz xs)) (hc:aw P n c Q fr ((k,.froz sz xs)::h)):aw P n c Q fr h :=
 fun G E a w hn C=>hc G E a w hn (C.froz hk)
theorem An.nilRow (C:An G E fr h a w) {k:Nat} (e sz:Nat) (hk:Ah h k=none) (hlow:k < 1000) :
  ∃ E',An G E' fr ((k,.row e sz [])::h) a w∧E'.row k=.slice none 0 0:=by
 refine⟨⟨E.blk,fun j=>if j=k then .slice none 0 0 else E.row j,E.fp⟩,?_,by simp⟩;refine C.upd ⟨fun _ _=>rfl,fun j hj=>by simp[hj],fun _ _=>rfl,fun _=>rfl,fun _=>hlow,fun m hm=>?_,(fun hs=>by rw[hk] at hs;cases hs),Ext.refl _ _,fun b hb=>?_⟩ ?_ (by simp[Ob.keys])
 ·exfalso;rcases hm with ⟨_,_,_,h1,_⟩|⟨_,_,h1,_⟩|h1|⟨_,_,_,_,h1,_⟩ <;> rw[hk] at h1 <;> cases h1
 ·unfold Ai at hb;rw[Zai] at hb;simp[obOf] at hb
 ·simp only[ObRep,RowAt];exact⟨by simp,.inl ⟨none,by simp⟩⟩
theorem ZbB {c:Code} (i k e sz:Nat) (hi:fget fr i=.d (.raw (.slice none 0 0))) (hk:Ah h k=none) (hlow:Nat.blt k 1000=true) (hc:aw P n c Q ((i,.own k 0)::fr) ((k,.row e sz [])::h)):aw P n c Q fr h:=by
 intro G E a w hn C;obtain⟨E',C',hE⟩:=C.nilRow (k:=k) e sz hk (by simpa[HU] using hlow);refine hc G E' a w hn ⟨C'.size,C'.defers,fun j=>?_,C'.heap,fun j=>?_,C'.ext,C'.fresh,C'.keep,C'.outer,C'.sub⟩
 ·by_cases e:i=j
  ·subst e;rw[Zbc];have hf:=C'.frame i;rw[hi] at hf;simp only[V.Rep,D.RepV,D.Rep,Hz,HA] at hf;simp only[V.Rep];exact⟨0,.inl ⟨_,_,[],Zai _ _ _,rfl⟩,Hg _,by rw[hf.1];exact hf.2,fun _=>by rw[hE];exact hf.1⟩
  ·rw[Za8 _ _ e];exact C'.frame j
 ·by_cases e:i=j
  ·subst e;rw[Zbc];intro q hq;simp[V.keys] at hq;subst hq;rw[Zai];rfl
  ·rw[Za8 _ _ e];exact C'.closed j
theorem ZaD {c:Code} (b j k e sz:Nat) {ty:TypeId} {cs:List V} (hb:Ah h b=some (.box ty cs)) (hj:cs[j]? = some (.d (.raw (.slice none 0 0)))) (hk:Ah h k=none) (hlow:Nat.blt k 1000=true)
  (hc:aw P n c Q fr ((b,.box ty (cs.set j (.own k 0)))::(k,.row e sz [])::h)):aw P n c Q fr h:=by
 intro G E a w hn C;obtain⟨E',C',hE⟩:=C.nilRow (k:=k) e sz hk (by simpa[HU] using hlow);have hbk:b≠k:=by rintro rfl;rw[hk] at hb;cases hb
 have hb':Ah ((k,Ob.row e sz [])::h) b=some (.box ty cs):=by rw[Zar _ _ (Ne.symm hbk)];exact hb
 obtain⟨us,g1,g2,g3⟩:=C'.heap.obs b _ hb';have U:Upd E' ((k,.row e sz [])::h) w b (.box ty (cs.set j (.own k 0))) E' w :=
  ⟨fun _ _=>rfl,fun _ _=>rfl,fun _ _=>rfl,fun _=>rfl,(fun hn=>by rw[hb'] at hn;cases hn),
   (fun m hm=>by exfalso;rcases hm with ⟨_,_,_,h1,_⟩|⟨_,_,h1,_⟩|h1|⟨_,_,_,_,h1,_⟩ <;> rw[hb'] at h1 <;> cases h1),
   (fun _ sz n hv=>by exfalso;rcases hv with ⟨_,_,h1,_⟩|⟨_,_,_,_,h1,_⟩ <;> (rw[Zai] at h1;cases h1)),
   Ext.refl _ _,(fun x hx=>.inl (by unfold Ai at hx ⊢;rw[Zai] at hx;rw[hb'];exact hx))⟩
 refine hc G E' a w hn (C'.upd U ?_ ?_)
 ·refine⟨us,g1,?_,g3⟩;obtain⟨u,hu,hur⟩:=g2.get hj;simp only[V.Rep,D.RepV,D.Rep,Hz,HA] at hur;have hcl:=C'.heap.closed b _ hb';have g2':=g2.move (U.trans G.o) (by simpa[Ob.keys] using hcl) (fun i hi=>U.mono i (hcl i (by simpa[Ob.keys] using hi)));have:=g2'.set (i:=j) (v:=.own k 0) (u:=u) (by
   simp only[V.Rep];exact⟨0,.inl ⟨e,sz,[],by rw[Zar _ _ hbk,Zai],rfl⟩,Hg _,by rw[hur.1];exact hur.2,fun _=>by rw[hE];exact hur.1⟩)
  have e:us.set j u=us:=by
   apply List.ext_getElem?;intro i;rw[JA];split
   ·rename_i e;subst e;rw[hu];split <;> simp_all
   ·rfl
  rwa [e] at this
 ·intro i hi;simp only[Ob.keys] at hi;obtain⟨v,hv,hi⟩:=V.keyss_mem.1 hi;rcases GU hv with hv|rfl
  ·exact U.mono i (C'.heap.closed b _ hb' i (by simp only[Ob.keys];exact V.keyss_mem.2 ⟨v,hv,hi⟩))
  ·simp[V.keys] at hi;subst hi;rw[Zar _ _ hbk,Zai];rfl
end
end Go.Proofs.YtbpmepgnjanhnaaGreat
