import Derived.Test.YtbpmepgnjanhnaaGreatS3
import Derived.Test.YtbpmepgnjanhnaaGreatRows
import Derived.OpenShut
import Derived.ShutString
import Derived.JoinedCond
import Derived.Carry
import Derived.Deep.Slices
import Derived.Test.YtbpmepgnjanhnaaGreatQGramC
import Derived.Test.YtbpmepgnjanhnaaGreatP1
import Derived.Test.YtbpmepgnjanhnaaGreatQSaP
set_option linter.unusedVariables false
set_option linter.unusedSimpArgs false
set_option linter.unusedSectionVars false
namespace Go.Proofs.YtbpmepgnjanhnaaGreat
open Go.ChangeShapes Go.WideShapes Go.ChangeAt Go.RowKit
open Go.Deep (open_slice)
theorem Ext.below {w w':World} (h:Ext NoB w w'):Below w.heap.size w w' :=
 ⟨h.os,h.tape,h.output,h.size,fun k hk=>h.block k hk (fun x=>x)⟩
theorem Tryz.laidOut:laidOutB Tryz.prog=true:=by kernel_rfl
theorem Tryz.ownKnob:ownKnob Tryz.prog.godebug=none:=by kernel_rfl
theorem Zfw {H:Type} {enc:TypeId×Value→H} {P:Program} (hl:laidOutB P=true) {W W':World} (hE:Ext NoB W W') :
  ∀ {ts:List TypeId} {vs:List Value} {ds:List (DataW H)} {ps:List MemPlace},(∀ t∈ts,P.readableRec t=true∧t < P.types.size) →
   DataW.TrodAll enc P W 0 (fun _=>true) true ts vs ds ps→(∀ x∈ps,x.block < W.heap.size)→DataW.TrodAll enc P W' 0 (fun b=>decide (b < W.heap.size)) true ts vs ds ps
 | [],vs,ds,ps,_,h,_=>by
  obtain⟨rfl,rfl,rfl⟩:=trodAll_nil h
  exact trodAll_mk0
 | t::ts,vs,ds,ps,ht,h,hp=>by
  obtain⟨v,vs',d,ds',p,q,rfl,rfl,rfl,h1,h2⟩:=trodAll_cons h
  refine⟨p,q,?_,Zfw hl hE (fun t' ht'=>ht t' (by simp[ht'])) h2 (fun x hx=>hp x (by simp[hx])),rfl⟩
  exact Below.trod hl (ht t (by simp)).1 (ht t (by simp)).2 h1 hE.below (fun x hx=>hp x (by simp[hx]))
theorem Ztn {H:Type} {enc:TypeId×Value→H} {P:Program} {f:Func} {s:ChangeSpec} {W W':World} {args:Array Value} {ds gs:List (DataW H)} {before:List MemPlace}
  (hl:laidOutB P=true) (ht:∀ t∈f.params.toList,P.readableRec t=true∧t < P.types.size) (tb:TypeId) (hf:f.resultTypes=#[tb]) (hb:P.underlying tb=some .bool)
  (hW:DataW.Whole enc P f.params.toList s.vars false W args.toList ds gs before) (hv:s.vars=[]) (hs:s.fn H (ds++gs)={ results:=[.lit (.bool true)],args:=ds }) (hE:Ext NoB W W') :
  s.post enc P f false true false false W args (.bool true) W':=by
 have hW':=hW
 obtain⟨p,q,hA,hV,rfl,hfz,hnd⟩:=hW
 rw[hv] at hV
 obtain⟨rfl,rfl⟩:=trodVars_none hV
 have hlt:=hW'.lt
 refine⟨ds,[],p++[],[],p,[],hW',?_,?_,?_,hE.below.frame _,fun h=>by cases h⟩
 ·rw[hs,hf]
  exact trodAll_cons_mk (p:=[]) (p':=[]) (shut_bool hb true) trodAll_mk0
 ·rw[hs]
  exact Zfw hl hE ht hA (fun x hx=>hlt x (by simp[hx]))
 ·rw[hs,hv]
  exact rfl
def M0:Bars:=fun _ _=>False
theorem Zto (E:Env):bars E [] M0=M0:=by
 funext t b
 simp[bars,Live,blkOf,hget,M0]
def RepsV (w:World):List D→List Value→Prop
 | [],us=>us=[]
 | d::ds,us=>∃ u r,us=u::r∧d.RepV M0 w u∧RepsV w ds r
theorem RepsV.reps {E:Env} {w:World}:∀ {ds:List D} {us:List Value},RepsV w ds us→V.Reps E [] M0 w (ds.map V.d) us
 | [],_,h=>by simpa[RepsV,V.Reps] using h
 | d::ds,_,h=>by
  obtain⟨u,r,rfl,h1,h2⟩:=h
  simp only[List.map_cons,V.Reps,V.Rep]
  exact⟨u,r,rfl,h1,h2.reps⟩
theorem Zq9:∀ (ds:List D),V.keyss (ds.map V.d)=[]
 | []=>rfl
 | d::ds=>by simp[V.keyss,V.keys,Zq9 ds]
theorem ACalls.law {P:Program} {f:FuncId} {ds:List D} (hc:ACalls P f (ds.map V.d) [] (B true) []) {w:World} {us:List Value} (hr:RepsV w ds us) :
  Calls P f us.toArray w fun e w'=>e=.returned (.bool true)∧Ext NoB w w':=by
 have E:Env:=⟨fun _=>0,fun _=>undef,fun _=>[]⟩
 refine (hc.run E w us M0 ⟨by simp[hget],by simp[blkOf,hget],by simp[hget]⟩ (by rw[Zto];exact hr.reps) (by rw[Zq9];simp) (by simp[M0]) (by simp[M0])).mono ?_
 rintro e w' ⟨E',u,rfl,_,h2,_,h3,_⟩
 simp only[V.Rep,D.RepV,D.Rep,List.cons.injEq,and_true] at h2
 exact⟨by rw[h2.1],h3.mono (fun x hx=>by obtain⟨k,hk⟩:=hx;simp[blkOf,hget] at hk)⟩
section
variable {H:Type}
theorem Zfx (d:DataW H):1≤Rows.uptoBulk d:=by
 cases d with
 | lit l=>cases l <;> simp[Rows.uptoBulk]
 | _=>simp[Rows.uptoBulk]
theorem Zon:∀ (ds:List (DataW H)),ds.length≤Rows.uptoBulkAll ds
 | []=>by simp
 | d::r=>by have:=Zfx d;have:=Zon r;simp only[List.length_cons,Rows.uptoBulkAll];omega
theorem Zoo:∀ {ds:List (DataW H)} {d:DataW H},d∈ds→Rows.uptoBulk d≤Rows.uptoBulkAll ds
 | [],_,h=>by cases h
 | x::r,d,h=>by
  simp only[Rows.uptoBulkAll]
  rcases List.mem_cons.1 h with rfl|h
  ·omega
  ·have:=Zoo h;omega
end
def Rd (P:Program) (t:TypeId) {α:Type} (f:α→D) (Φ:α→Nat→Prop):Prop :=
 ∀ (H:Type) (enc:TypeId×Value→H) (w:World) (held:Bool) (n:Nat) (cs:List Value) (y:DataW H×List MemPlace),DataW.trod enc P w 0 (fun _=>true) held n t cs=some y→∃ r:α,(f r).Rep M0 w cs∧Φ r (Rows.uptoBulk y.1)
def RdN (P:Program) (N:Nat) (t:TypeId) {α:Type} (f:α→D) (Φ:α→Nat→Prop):Prop :=
 ∀ (H:Type) (enc:TypeId×Value→H) (w:World) (held:Bool) (n:Nat) (cs:List Value) (y:DataW H×List MemPlace),n < N→DataW.trod enc P w 0 (fun _=>true) held n t cs=some y→∃ r:α,(f r).Rep M0 w cs∧Φ r (Rows.uptoBulk y.1)
theorem Rd.n {P:Program} {t:TypeId} {α:Type} {f:α→D} {Φ:α→Nat→Prop} (h:Rd P t f Φ) (N:Nat):RdN P N t f Φ :=
 fun H enc w held n cs y _ hy=>h H enc w held n cs y hy
theorem ZvO {P:Program} {t:TypeId} {k:IntKind} (hu:P.underlying t=some (.int k)):Rd P t (fun n:Int=>.raw (.int k n)) (fun _ _=>True):=fun H enc w held n cs y h=>by
 obtain⟨n,rfl,rfl,_⟩:=DataW.trod_int hu h
 exact⟨n,by simp[D.Rep,Value.oneCell'],trivial⟩
theorem Zra {w:World} {α:Type} {f:α→D} {sz:Nat} (hfs:∀ r,(f r).size=sz) (b off:Nat):∀ (n:Nat) (g:Nat→α) (C:Nat→List Value),(∀ i,i < n→(f (g i)).Rep M0 w (C i)∧∀ j,j < sz→w.cell? ⟨b,off+(i * sz+j),none⟩=(C i)[j]?) →
  ∃ es,D.Reps M0 w (((List.range n).map g).map f) es∧∀ j,j < es.length→w.cell? ⟨b,off+j,none⟩=es[j]?
 | 0,_,_,_=>⟨[],by simp[D.Reps],by simp⟩
 | n+1,g,C,h=>by
  obtain⟨es,h1,h2⟩:=Zra hfs b off n g C (fun i hi=>h i (by omega))
  obtain⟨k1,k3⟩:=h n (by omega)
  have hl:es.length=n * sz:=by
   have:=D.Reps.length h1
   rw[D.sizes_eq (sz:=sz) (by intro x hx;obtain⟨r,_,rfl⟩:=List.mem_map.1 hx;exact hfs r)] at this
   simpa using this
  have hc:(C n).length=sz:=(D.Rep.length k1).trans (hfs _)
  refine⟨es++C n,?_,fun j hj=>?_⟩
  ·rw[List.range_succ,List.map_append,List.map_append]
   exact D.Reps.append h1 (by simpa using D.Reps.single.2 k1)
  ·rw[List.length_append] at hj
   by_cases hjl:j < es.length
   ·rw[List.getElem?_append_left hjl];exact h2 j hjl
   ·rw[List.getElem?_append_right (by omega),←k3 (j - es.length) (by omega),hl]
    congr 2
    omega
def Zrb {α:Type} (Φ:α→Nat→Prop) (rs:List α) (N:Nat):Prop:=rs.length≤N∧∀ r∈rs,Φ r N
theorem Zi8 {P:Program} {N:Nat} {t e:TypeId} {sz:Nat} {α:Type} [Inhabited α] {f:α→D} {Φ:α→Nat→Prop} (ht:P.underlying t=some (.slice e)) (hc:P.cellsOf e=sz) (hsz:0 < sz) (hfs:∀ r,(f r).size=sz)
  (he:RdN P N e f Φ) {H:Type} {enc:TypeId×Value→H} {w:World} {held:Bool} {n:Nat} {cs:List Value} {x:DataW H×List MemPlace} (hn:n < N+1) (h:DataW.trod enc P w 0 (fun _=>true) held n t cs=some x) :
  ∃ (rs:List α) (els rest:List (DataW H)),(D.sl false sz (rs.map f)).Rep M0 w cs∧Rows.uptoBulkAll els≤Rows.uptoBulk x.1 - 1∧rs.length=els.length∧∀ i (h1:i < rs.length) (h2:i < els.length),Φ rs[i] (Rows.uptoBulk els[i]):=by
 rcases DataW.trod_slice ht h with ⟨rfl,rfl⟩|⟨a,len,cap,elems,rest,n',hn',rfl,rfl,_,hl,hm,hlen,hel,_,_⟩
 ·refine⟨[],[],[],?_,by simp[Rows.uptoBulkAll],rfl,by simp⟩
  simp only[D.Rep]
  exact⟨none,0,[],by simp,by simp,by simp[maxLen],by simp,by simp[D.Reps],by simp⟩
 ·have hex:∀ i,∃ r:α×List Value,∀ (hi:i < len),(f r.1).Rep M0 w r.2∧Φ r.1 (Rows.uptoBulk (elems[i]'(by omega)).1)∧w.cells? 0 (a.add (i * P.cellsOf e)) (P.cellsOf e)=some r.2:=fun i=>by
   by_cases hi:i < len
   ·have hb:=hel i hi
    rw[List.getElem?_eq_getElem (by omega)] at hb
    obtain⟨cs',h1,h2⟩:=Option.bind_eq_some_iff.1 hb
    obtain⟨r,h3,h4⟩:=he H enc w held n' cs' _ (by omega) h2
    exact⟨(r,cs'),fun _=>⟨h3,h4,h1⟩⟩
   ·exact⟨(default,[]),fun h=>absurd h hi⟩
  obtain⟨G,hG⟩:=Classical.axiomOfChoice hex
  rw[hc] at hG
  have hb:0 < len→∃ b off,a=⟨b,off,none⟩∧b < w.heap.size:=fun h0=>by
   obtain⟨_,_,h3⟩:=hG 0 h0
   have hlt:=World.cells?_block h3 hsz
   obtain⟨_,h5,h6⟩:=World.cells?_some h3
   have h7:=h6 0 hsz
   obtain⟨b,off,spot⟩:=a
   have h8:∃ u,(G 0).2[0]?=some u:=⟨_,List.getElem?_eq_getElem (by omega)⟩
   obtain⟨u,hu⟩:=h8
   rw[hu] at h7
   have hspot:spot=none:=by simpa[Addr.add] using World.cell?_spot h7
   subst hspot
   exact⟨b,off,rfl,by simpa[Addr.add] using hlt⟩
  refine⟨(List.range len).map fun i=>(G i).1,elems.map (·.1),[],?_,?_,by simp[hlen],?_⟩
  ·rcases Nat.eq_zero_or_pos len with rfl|h0
   ·simp only[D.Rep]
    exact⟨some a,cap,[],by simp,by simp,hm,by simp,by simp[D.Reps],by simp⟩
   ·obtain⟨b,off,rfl,hbs⟩:=hb h0
    obtain⟨es,h1,h2⟩:=Zra (f:=f) hfs b off len (fun i=>(G i).1) (fun i=>(G i).2) (fun i hi=>by
     obtain⟨g1,_,g3⟩:=hG i hi
     obtain⟨_,g5,g6⟩:=World.cells?_some g3
     refine⟨g1,fun j hj=>?_⟩
     rw[←g6 j hj]
     congr 1
     simp only[Addr.add]
     split <;> split <;> simp_all <;> omega)
    simp only[D.Rep]
    refine⟨some ⟨b,off,none⟩,cap,es,by simp,by simpa using hl,hm,?_,h1,fun _=>⟨b,off,rfl,by simp[M0],hbs,h2⟩⟩
    intro x hx
    obtain⟨r,_,rfl⟩:=List.mem_map.1 hx
    exact hfs r
  ·simp only[Rows.uptoBulk];omega
  ·intro i h1 h2
   have hi:i < len:=by simpa using h1
   have:=(hG i hi).2.1
   simpa using this
theorem Zop {H:Type} {α:Type} (μ:α→Nat):∀ (rs:List α) (els:List (DataW H)),rs.length=els.length→(∀ i (h1:i < rs.length) (h2:i < els.length),μ rs[i]≤Rows.uptoBulk els[i])→(rs.map μ).sum≤Rows.uptoBulkAll els
 | [],[],_,_=>by simp
 | [],_::_,h,_=>by simp at h
 | _::_,[],h,_=>by simp at h
 | r::rs,e::els,h,hp=>by
  have h0:=hp 0 (by simp) (by simp)
  have:=Zop μ rs els (by simpa using h) (fun i h1 h2=>by have:=hp (i+1) (by simpa using h1) (by simpa using h2);simpa using this)
  simp only[List.map_cons,List.sum_cons,Rows.uptoBulkAll]
  simp only[List.getElem_cons_zero] at h0
  omega
theorem Zrc {P:Program} {N:Nat} {t e:TypeId} {sz:Nat} {α:Type} [Inhabited α] {f:α→D} {Φ:α→Nat→Prop} (ht:P.underlying t=some (.slice e)) (hc:P.cellsOf e=sz) (hsz:0 < sz) (hfs:∀ r,(f r).size=sz) (hΦ:∀ r m n,Φ r m→m≤n→Φ r n)
  (he:RdN P N e f Φ):RdN P (N+1) t (fun rs:List α=>.sl false sz (rs.map f)) (Zrb Φ):=by
 intro H enc w held n cs x hn h
 obtain⟨rs,els,_,h1,h2,h3,h4⟩:=Zi8 ht hc hsz hfs he hn h
 refine⟨rs,h1,?_,fun r hr=>?_⟩
 ·have:=Zon els;have:=Zfx x.1;omega
 ·obtain⟨i,hi,rfl⟩:=List.getElem_of_mem hr
  have:=Zoo (ds:=els) (d:=els[i]'(by omega)) (List.getElem_mem _)
  exact hΦ _ _ _ (h4 i hi (by omega)) (by omega)
theorem Zfy {P:Program} {N:Nat} {t e:TypeId} {sz:Nat} {α:Type} [Inhabited α] {f:α→D} {μ:α→Nat} (ht:P.underlying t=some (.slice e)) (hc:P.cellsOf e=sz) (hsz:0 < sz) (hfs:∀ r,(f r).size=sz)
  (he:RdN P N e f (fun r n=>μ r≤n)):RdN P (N+1) t (fun rs:List α=>.sl false sz (rs.map f)) (fun rs n=>(rs.map μ).sum≤n - 1):=by
 intro H enc w held n cs x hn h
 obtain⟨rs,els,_,h1,h2,h3,h4⟩:=Zi8 ht hc hsz hfs he hn h
 exact⟨rs,h1,Nat.le_trans (Zop μ rs els h3 h4) h2⟩
theorem ZgV {P:Program} {t e:TypeId} {sz:Nat} {α:Type} [Inhabited α] {f:α→D} {Φ:α→Nat→Prop} (ht:P.underlying t=some (.slice e)) (hc:P.cellsOf e=sz) (hsz:0 < sz) (hfs:∀ r,(f r).size=sz) (hΦ:∀ r m n,Φ r m→m≤n→Φ r n)
  (he:Rd P e f Φ):Rd P t (fun rs:List α=>.sl false sz (rs.map f)) (Zrb Φ) :=
 fun H enc w held n cs y h=>Zrc ht hc hsz hfs hΦ (he.n n) H enc w held n cs y (Nat.lt_succ_self _) h
theorem Za3 {w:World} {d:D} {ds:List D} {c r:List Value} (h1:d.Rep M0 w c) (h2:D.Reps M0 w ds r):D.Reps M0 w (d::ds) (c++r):=by
 simp only[D.Reps];exact⟨c,r,rfl,h1,h2⟩
theorem Zd9 {w:World}:D.Reps M0 w [] []:=by simp[D.Reps]
theorem Zrd {P:Program} {t:TypeId} {fs:Array Field} {α:Type} {f:α→List D} {Φ:α→Nat→Prop} (hu:P.underlying t=some (.struct fs)) (hr:Rd P t (fun a=>.agg (f a)) Φ) {H:Type} {enc:TypeId×Value→H} {w:World} {base:Nat} {v:Value} {d:DataW H} {p:List MemPlace}
  (hval:Value.okWide P w .any base t v) (h:DataW.Trod enc P w 0 (fun _=>true) true t v d p):∃ r:α,(D.agg (f r)).RepV M0 w v∧Φ r (Rows.uptoBulk d):=by
 unfold Value.okWide at hval
 rw[hu] at hval
 obtain⟨cs,rfl,_⟩:=hval
 obtain⟨fuel,h⟩:=h
 obtain⟨r,h1,h2⟩:=hr H enc w true fuel _ _ h
 refine⟨r,⟨cs.toList,by simp,?_⟩,h2⟩
 simpa[Value.cells,D.Rep] using h1
theorem Zln {P:Program} {t e:TypeId} {sz:Nat} {α:Type} {f:α→List D} {Φ:α→Nat→Prop} (hu:P.underlying t=some (.slice e)) (hr:Rd P t (fun a=>.sl false sz (f a)) Φ) {H:Type} {enc:TypeId×Value→H} {w:World} {base:Nat} {v:Value} {d:DataW H} {p:List MemPlace}
  (hval:Value.okWide P w .any base t v) (h:DataW.Trod enc P w 0 (fun _=>true) true t v d p):∃ r:α,(D.sl false sz (f r)).RepV M0 w v∧Φ r (Rows.uptoBulk d):=by
 obtain⟨fuel,h⟩:=h
 obtain⟨r,h1,h2⟩:=hr H enc w true fuel _ _ h
 refine⟨r,?_,h2⟩
 have hv:v.cells=#[v]:=by
  unfold Value.okWide at hval
  rw[hu] at hval
  cases v with
  | agg cs=>simp[Cell.okWide,Cell.ok,hu] at hval
  | _=>rfl
 rw[hv] at h1
 exact h1
end Go.Proofs.YtbpmepgnjanhnaaGreat
namespace Go.Proofs.YtbpmepgnjanhnaaGreat
open Go.ChangeShapes Go.WideShapes Go.ChangeAt Go.RowKit
set_option maxRecDepth 100000
theorem Zea:Tryz.prog.cellsOf 3=1:=by kernel_rfl
theorem Zpu:Tryz.prog.cellsOf 25=1:=by kernel_rfl
theorem Zi9:Tryz.prog.cellsOf 68=2:=by kernel_rfl
theorem ZmT:Tryz.prog.cellsOf 22=1:=by kernel_rfl
theorem Zja:Tryz.prog.cellsOf 24=4:=by kernel_rfl
theorem Zlo:Rd Tryz.prog 3 iD (fun _ _=>True):=ZvO Tryz.underlying3
theorem Zt7:Rd Tryz.prog 25 (fun xs:List Int=>ints false xs) (fun xs n=>xs.length≤n):=fun H enc w held n cs y h=>by
 obtain⟨rs,h1,h2⟩:=ZgV Tryz.underlying25 Zea (by decide) (fun _=>rfl) (fun _ _ _ _ _=>trivial) Zlo H enc w held n cs y h
 exact⟨rs,h1,h2.1⟩
theorem ZvP:Rd Tryz.prog 68 (Zbu false) (fun r n=>r.right.length≤n):=fun H enc w held n cs x h=>by
 obtain⟨xs,n,rfl,rfl,hl,hx,hf⟩:=DataW.trod_struct Tryz.underlying68 h
 have f0:=hf 0 _ rfl
 have f1:=hf 1 _ rfl
 clear hf
 replace hl:=hl.trans Zi9
 match cs,hl,xs,hx with
 | [c0,c1],_,[x0,x1],_ =>
  simp only[Zea,Zpu,List.drop_zero,List.drop_succ_cons,List.take_succ_cons,List.take_zero,List.getElem?_cons_zero,List.getElem?_cons_succ] at f0 f1
  obtain⟨l,h1,_⟩:=Zlo _ _ _ _ _ _ _ f0
  obtain⟨rt,h2,h3⟩:=Zt7 _ _ _ _ _ _ _ f1
  refine⟨⟨l,rt⟩,?_,?_⟩
  ·simp only[Zbu,D.Rep]
   exact Za3 (c:=[c0]) h1 (Za3 (c:=[c1]) h2 Zd9)
  ·simp[Rows.uptoBulk,Rows.uptoBulkAll];omega
theorem ZuJ:Rd Tryz.prog 22 (fun rs:List Rule=>ZaT false rs) (Zrb (fun r n=>r.right.length≤n)) :=
 ZgV Tryz.underlying22 Zi9 (by decide) (fun _=>rfl) (fun _ _ _ h hm=>Nat.le_trans h hm) ZvP
def Gram.le (g:Gram) (n:Nat):Prop:=g.rules.length≤n∧∀ r∈g.rules,r.right.length≤n
theorem Zt8:Rd Tryz.prog 24 (fun g:Gram=>.agg [iD g.vars,iD g.terms,iD g.start,ZaT false g.rules]) Gram.le:=fun H enc w held n cs x h=>by
 obtain⟨xs,n,rfl,rfl,hl,hx,hf⟩:=DataW.trod_struct Tryz.underlying24 h
 have f0:=hf 0 _ rfl
 have f1:=hf 1 _ rfl
 have f2:=hf 2 _ rfl
 have f3:=hf 3 _ rfl
 clear hf
 replace hl:=hl.trans Zja
 match cs,hl,xs,hx with
 | [c0,c1,c2,c3],_,[x0,x1,x2,x3],_ =>
  simp only[Zea,ZmT,List.drop_zero,List.drop_succ_cons,List.take_succ_cons,List.take_zero,List.getElem?_cons_zero,List.getElem?_cons_succ] at f0 f1 f2 f3
  obtain⟨a,h0,_⟩:=Zlo _ _ _ _ _ _ _ f0
  obtain⟨b,h1,_⟩:=Zlo _ _ _ _ _ _ _ f1
  obtain⟨c,h2,_⟩:=Zlo _ _ _ _ _ _ _ f2
  obtain⟨rs,h3,h4,h5⟩:=ZuJ _ _ _ _ _ _ _ f3
  have hb:Rows.uptoBulk x3.1≤Rows.uptoBulk (DataW.agg [x0.1,x1.1,x2.1,x3.1]):=by simp[Rows.uptoBulk,Rows.uptoBulkAll];omega
  refine⟨⟨a,b,c,rs⟩,?_,Nat.le_trans h4 hb,fun r hr=>Nat.le_trans (h5 r hr) hb⟩
  simp only[D.Rep]
  exact Za3 (c:=[c0]) h0 (Za3 (c:=[c1]) h1 (Za3 (c:=[c2]) h2 (Za3 (c:=[c3]) h3 Zd9)))
end Go.Proofs.YtbpmepgnjanhnaaGreat
namespace Go.Proofs.YtbpmepgnjanhnaaGreat
open Go.ChangeShapes Go.WideShapes Go.ChangeAt Go.RowKit
set_option maxRecDepth 100000
theorem Zf1:Tryz.prog.cellsOf 56=2:=by kernel_rfl
theorem ZhH:Tryz.prog.cellsOf 37=1:=by kernel_rfl
theorem Zj3:∀ (l:List Tree),(l.map cnt).sum=cnts l
 | []=>rfl
 | x::l=>by simp[cnts,Zj3 l]
theorem Zjb (x:Tree):(Zat false x).size=2:=by cases x;rfl
theorem ZmU:∀ (k:Nat),RdN Tryz.prog (2 * k) 56 (Zat false) (fun x n=>cnt x≤n)
 | 0=>fun H enc w held n cs y hn _=>by omega
 | k+1=>fun H enc w held n cs x hn h=>by
  have hs:=Zfy Tryz.underlying37 Zf1 (by decide) Zjb (ZmU k)
  obtain⟨xs,n',hn',rfl,hl,hx,hf⟩:=DataW.trod_struct Tryz.underlying56 h
  have f0:=hf 0 _ rfl
  have f1:=hf 1 _ rfl
  clear hf
  replace hl:=hl.trans Zf1
  match cs,hl,xs,hx with
  | [c0,c1],_,[x0,x1],_ =>
   simp only[Zea,ZhH,List.drop_zero,List.drop_succ_cons,List.take_succ_cons,List.take_zero,List.getElem?_cons_zero,List.getElem?_cons_succ] at f0 f1
   obtain⟨r,h1,_⟩:=Zlo _ _ _ _ _ _ _ f0
   obtain⟨ks,h2,h3⟩:=hs _ _ _ _ _ _ _ (by omega) f1
   refine⟨.mk r ks,?_,?_⟩
   ·rw[Zbi]
    simp only[D.Rep]
    exact Za3 (c:=[c0]) h1 (Za3 (c:=[c1]) h2 Zd9)
   ·rw[Zj3] at h3
    have:=Zfx x1.1
    simp only[cnt,Rows.uptoBulk,List.map_cons,List.map_nil,Rows.uptoBulkAll]
    omega
theorem ZvQ:Rd Tryz.prog 56 (fun x:Tree=>.agg [iD x.rule,Zal false x.kids]) (fun x n=>cnt x≤n):=fun H enc w held n cs y hy=>by
 obtain⟨r,h1,h2⟩:=ZmU (n+1) H enc w held n cs y (by omega) hy
 rw[Zbi] at h1
 exact⟨r,h1,h2⟩
end Go.Proofs.YtbpmepgnjanhnaaGreat
namespace Go.Proofs.YtbpmepgnjanhnaaGreat
open Go.ChangeShapes Go.WideShapes Go.ChangeAt Go.RowKit
set_option maxRecDepth 100000
theorem Zf2:Tryz.prog.cellsOf 102=3:=by kernel_rfl
theorem ZhI:Tryz.prog.cellsOf 75=1:=by kernel_rfl
theorem Zlp:Tryz.prog.cellsOf 36=1:=by kernel_rfl
theorem Zjc:Tryz.prog.cellsOf 39=6:=by kernel_rfl
theorem Zj4:∀ (l:List Frag),(l.map fsz).sum=fszs l
 | []=>rfl
 | x::l=>by simp[fszs,Zj4 l]
theorem Zjd (x:Frag):(ZaV false x).size=3:=by cases x;rfl
theorem Zre:∀ (k:Nat),RdN Tryz.prog (2 * k) 102 (ZaV false) (fun x n=>fsz x≤n)
 | 0=>fun H enc w held n cs y hn _=>by omega
 | k+1=>fun H enc w held n cs x hn h=>by
  have hs:=Zfy Tryz.underlying75 Zf2 (by decide) Zjd (Zre k)
  obtain⟨xs,n',hn',rfl,hl,hx,hf⟩:=DataW.trod_struct Tryz.underlying102 h
  have f0:=hf 0 _ rfl
  have f1:=hf 1 _ rfl
  have f2:=hf 2 _ rfl
  clear hf
  replace hl:=hl.trans Zf2
  match cs,hl,xs,hx with
  | [c0,c1,c2],_,[x0,x1,x2],_ =>
   simp only[Zea,ZhI,List.drop_zero,List.drop_succ_cons,List.take_succ_cons,List.take_zero,List.getElem?_cons_zero,List.getElem?_cons_succ] at f0 f1 f2
   obtain⟨o,h0,_⟩:=Zlo _ _ _ _ _ _ _ f0
   obtain⟨r,h1,_⟩:=Zlo _ _ _ _ _ _ _ f1
   obtain⟨ks,h2,h3⟩:=hs _ _ _ _ _ _ _ (by omega) f2
   refine⟨.mk o r ks,?_,?_⟩
   ·rw[ZbG]
    simp only[D.Rep]
    exact Za3 (c:=[c0]) h0 (Za3 (c:=[c1]) h1 (Za3 (c:=[c2]) h2 Zd9))
   ·rw[Zj4] at h3
    have:=Zfx x0.1
    have:=Zfx x1.1
    simp only[fsz,Rows.uptoBulk,List.map_cons,List.map_nil,Rows.uptoBulkAll]
    omega
theorem ZuK:Rd Tryz.prog 75 (fun l:List Frag=>Zam false l) (fun l n=>fszs l≤n):=fun H enc w held n cs y hy=>by
 obtain⟨r,h1,h2⟩:=Zfy Tryz.underlying75 Zf2 (by decide) Zjd (Zre (n+1)) H enc w held n cs y (by omega) hy
 rw[Zj4] at h2
 exact⟨r,h1,by omega⟩
theorem Ztp:Rd Tryz.prog 36 (fun l:List (List Frag)=>.sl false 1 (l.map (Zam false))) (Zrb (fun l n=>fszs l≤n)) :=
 ZgV Tryz.underlying36 ZhI (by decide) (fun _=>rfl) (fun _ _ _ h hm=>Nat.le_trans h hm) ZuK
theorem ZuL:Rd Tryz.prog 37 (fun l:List Tree=>Zal false l) (fun l n=>cnts l≤n):=fun H enc w held n cs y hy=>by
 obtain⟨r,h1,h2⟩:=Zfy Tryz.underlying37 Zf1 (by decide) Zjb (ZmU (n+1)) H enc w held n cs y (by omega) hy
 rw[Zj3] at h2
 exact⟨r,h1,by omega⟩
theorem Gram.le.fit {g:Gram} {n:Nat} (h:g.le n) (hn:n≤100000000):g.fit:=⟨Nat.le_trans h.1 hn,fun r hr=>Nat.le_trans (h.2 r hr) hn⟩
def Step.le (s:Step) (n:Nat):Prop:=s.g.le n∧s.frags.length≤n∧(∀ l∈s.frags,fszs l≤n)∧cnts s.empty≤n
theorem Step.le.fit {s:Step} {n:Nat} (h:s.le n) (hn:n≤100000000):s.fit:=⟨h.1.fit hn,Nat.le_trans h.2.1 hn,fun l hl=>Nat.le_trans (h.2.2.1 l hl) hn,Nat.le_trans h.2.2.2 hn⟩
theorem Gram.le.mono {g:Gram} {n m:Nat} (h:g.le n) (hn:n≤m):g.le m:=⟨Nat.le_trans h.1 hn,fun r hr=>Nat.le_trans (h.2 r hr) hn⟩
theorem ZvR:Rd Tryz.prog 39 (fun s:Step=>.agg [iD s.g.vars,iD s.g.terms,iD s.g.start,ZaT false s.g.rules,.sl false 1 (s.frags.map (Zam false)),Zal false s.empty]) Step.le:=fun H enc w held n cs x h=>by
 obtain⟨xs,n,rfl,rfl,hl,hx,hf⟩:=DataW.trod_struct Tryz.underlying39 h
 have f0:=hf 0 _ rfl
 have f1:=hf 1 _ rfl
 have f2:=hf 2 _ rfl
 clear hf
 replace hl:=hl.trans Zjc
 match cs,hl,xs,hx with
 | [c0,c1,c2,c3,c4,c5],_,[x0,x1,x2],_ =>
  simp only[Zja,Zlp,ZhH,List.drop_zero,List.drop_succ_cons,List.take_succ_cons,List.take_zero,List.getElem?_cons_zero,List.getElem?_cons_succ] at f0 f1 f2
  obtain⟨g,h0,b0⟩:=Zt8 _ _ _ _ _ _ _ f0
  obtain⟨fs,h1,b1⟩:=Ztp _ _ _ _ _ _ _ f1
  obtain⟨es,h2,b2⟩:=ZuL _ _ _ _ _ _ _ f2
  have hb:Rows.uptoBulk x0.1≤Rows.uptoBulk (DataW.agg [x0.1,x1.1,x2.1])∧Rows.uptoBulk x1.1≤Rows.uptoBulk (DataW.agg [x0.1,x1.1,x2.1])∧Rows.uptoBulk x2.1≤Rows.uptoBulk (DataW.agg [x0.1,x1.1,x2.1]):=by simp[Rows.uptoBulk,Rows.uptoBulkAll];omega
  refine⟨⟨g,fs,es⟩,?_,b0.mono hb.1,Nat.le_trans b1.1 hb.2.1,fun l hl=>Nat.le_trans (b1.2 l hl) hb.2.1,Nat.le_trans b2 hb.2.2⟩
  simp only[D.Rep] at h0 ⊢
  have:=D.Reps.append h0 (Za3 (c:=[c4]) h1 (Za3 (c:=[c5]) h2 Zd9))
  exact this
end Go.Proofs.YtbpmepgnjanhnaaGreat
namespace Go.Proofs.YtbpmepgnjanhnaaGreat
open Go.ChangeShapes Go.WideShapes Go.ChangeAt Go.RowKit
set_option maxRecDepth 100000
theorem Step.le.mono {s:Step} {n m:Nat} (h:s.le n) (hn:n≤m):s.le m:=⟨h.1.mono hn,Nat.le_trans h.2.1 hn,fun l hl=>Nat.le_trans (h.2.2.1 l hl) hn,Nat.le_trans h.2.2.2 hn⟩
instance:Inhabited Step:=⟨zeroStep⟩
theorem ZuM:Rd Tryz.prog 29 (fun ss:List Step=>ZaZ false false ss) (Zrb Step.le) :=
 ZgV (f:=Zbv false) Tryz.underlying29 Zjc (by decide) (fun _=>rfl) (fun _ _ _ h hm=>Step.le.mono h hm) ZvR
end Go.Proofs.YtbpmepgnjanhnaaGreat
