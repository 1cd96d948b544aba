import Derived.Test.YtbpmepgnjanhnaaGreatQTurnS
import Derived.Test.YtbpmepgnjanhnaaGreatQChnE
import Derived.OpenShut
import Derived.ShutString
import Derived.JoinedCond
import Derived.Carry
import Derived.Deep.Slices
set_option linter.unusedVariables false
set_option linter.unusedSimpArgs false
set_option linter.unusedSectionVars false
set_option maxHeartbeats 8000000
set_option maxRecDepth 100000
namespace Go.Proofs.YtbpmepgnjanhnaaGreat
open Go.RowKit
theorem ZrW (x:Tree):∀ (acc:List Tree) (k:Nat),k≤acc.length→(∀ z∈acc.drop k,0 < ordT z x)→(k=0∨∃ j,∃ h:j < acc.length,j+1=k∧ordT acc[j] x≤0)→insT x acc=acc.take k++x::acc.drop k
 | [],k,hk,_,_=>by
  obtain rfl:k=0:=by simpa using hk
  rfl
 | y::l,k,hk,h1,h2=>by
  rw[insT];cases k with
  | zero =>
   rw[Hb (by simpa using h1)];rfl
  | succ k =>
   rcases h2 with h2|⟨j,hj,e,h2⟩
   ·cases h2
   obtain rfl:j=k:=by omega
   rw[Ha (fun q=>by
    have:=(List.all_eq_true.1 q) _ (He hj);have:=H0 this;omega)]
   rw[ZrW x l j (by simpa using hk) h1 (by
    cases j with
    | zero=>exact .inl rfl
    | succ j=>exact .inr ⟨j,by simpa using hj,rfl,by simpa using h2⟩)]
   rfl
theorem ZmK {l:List Tree} {i:Nat} (h:i < l.length):Zcg (l.take (i+1))=insT l[i] (Zcg (l.take i)):=by
 unfold Zcg;rw[HD h,List.foldl_append];rfl
theorem Zoc {α:Type} {acc:List α} {k:Nat} {x y:α} (hk:k≤acc.length):(acc.take k++y::acc.drop k).set k x=acc.take k++x::acc.drop k:=by
 rw[Jg _ _ (by rw[Hs];omega),Hs,Gs hk,Ga,List.set_cons_zero]
theorem ZAZ {α:Type} {acc:List α} {k:Nat} {y:α} (hk:0 < k) (hp:k - 1 < acc.length):(acc.take k++y::acc.drop k).set k acc[k - 1]=acc.take (k - 1)++acc[k - 1]::acc.drop (k - 1):=by
 rw[Zoc (by omega)];obtain⟨j,rfl⟩:∃ j,k=j+1:=⟨k - 1,by omega⟩
 simp only[Nat.add_sub_cancel] at hp ⊢;rw[HD hp,Hw hp,HH];rfl
theorem Zod {t u:Bool} {l:List Tree} (hl:l.length≤100000000) (hc:∀ x∈l,cnt x≤100000000):Af Tryz.prog 21 [.d (.sl t 2 (l.map (ZaV u)))] [] (.d (.sl false 2 ((Zcg l).map (ZaV u)))) []:=by
 refine Af.intro (n:=54) Tryz.func21 (hw:=?_);simp only[Zal];refine VA ?_;refine ZbB 3 900 56 2 rfl rfl rfl ?_;refine Zak (X:=Nat×List Tree) (fun y=>y.1≤l.length∧y.2.length=y.1∧y.2=Zcg (l.take y.1)) (fun y=>[(4,I y.1),(3,.own 900 y.2.length),(0,.d (.sl t 2 (l.map (ZaV u))))]) (fun y=>[(900,.row 56 2 (y.2.map (ZaV u)))]) (fun y=>l.length - y.1) (0,[]) ⟨Hh _,rfl,rfl⟩ ?_;rintro⟨i,acc⟩ ⟨h1,h2,h3⟩;dsimp only at h1 h2 h3 ⊢;by_cases hlt:i < l.length
 ·have e1:acc.map (ZaV u)++[.agg [iD l[i].rule,Zan u l[i].Ab]]=(acc++[l[i]]).map (ZaV u):=by rw[Ho,Hm,HF,Zdy]
  have hmem:∀ z∈acc,cnt z≤100000000:=fun z hz=>hc z (Gf (i:=i) ((ZcV _).mem_iff.1 (h3 ▸ hz)))
  have hx:=hc _ (He hlt);refine VA ?_;obtain rfl:acc.length=i:=h2;rw[e1];refine Zak (X:=Nat×List Tree) (fun y=>y.1≤acc.length∧y.2.length=acc.length+1∧(∃ z,y.2=acc.take y.1++z::acc.drop y.1)∧(∀ z∈acc.drop y.1,0 < ordT z l[acc.length])∧∀ z∈y.2,cnt z≤100000000) (fun y=>[(5,I y.1),(4,I acc.length),(3,.own 900 y.2.length),(0,.d (.sl t 2 (l.map (ZaV u))))]) (fun y=>[(900,.row 56 2 (y.2.map (ZaV u)))]) (fun y=>y.1) (acc.length,acc++[l[acc.length]]) ⟨Hg _,by simp,⟨l[acc.length],by rw[HO,GM]⟩,by rw[GM];simp,fun z hz=>by
   rcases List.mem_append.1 hz with hz|hz
   ·exact hmem z hz
   ·rw[List.mem_singleton.1 hz];exact hx⟩ ?_
  rintro⟨k,L⟩ ⟨k1,k2,⟨y,k3⟩,k4,k5⟩;dsimp only at k1 k2 k3 k4 k5 ⊢;have hkL:k < L.length:=by omega
  have eLl:L.length=(insT l[acc.length] acc).length:=by rw[(Zfb l[acc.length] acc).length_eq,k2];rfl
  have hlk:L.take k=acc.take k:=by rw[k3,List.take_append_of_le_length (by rw[Hs];omega),List.take_take,Nat.min_self]
  by_cases hk0:0 < k
  ·have hp:k - 1 < L.length:=by omega
   have ep:(k:Int) - 1=((k - 1:Nat):Int):=by omega
   have eL:L[k - 1]=acc[k - 1]'(by omega):=by
    have:=Hy (fun z=>z[k - 1]?) hlk;simp only[GC,show k - 1 < k by omega,if_true] at this;rw[Hj hp,Hj (by omega)] at this;exact GF this
   have ho:=ZkM (t:=u) (u:=u) L[k - 1] (k5 _ (He hp)) l[acc.length] hx;by_cases hgt:0 < ordT L[k - 1] l[acc.length]
   ·have hpk:k - 1 < acc.length:=(by omega);have es:(L.map (ZaV u)).set k (.agg [iD L[k - 1].rule,Zan u L[k - 1].Ab])=(acc.take (k - 1)++acc[k - 1]::acc.drop (k - 1)).map (ZaV u):=by
     rw[←Zdy,←GN];congr 1;rw[eL];exact (Hy (fun z=>z.set k acc[k - 1]) k3).trans (ZAZ hk0 hpk)
    refine VA ?_;rw[ep];refine VA ?_;refine Zab [] (hA:=ho) (hr:=?_);refine VA ?_;rw[es,ep];exact Zad (k - 1,acc.take (k - 1)++acc[k - 1]::acc.drop (k - 1)) (a:=⟨by dsimp only;omega,by simp;omega,⟨_,rfl⟩,fun z hz=>by
     dsimp only at hz;rw[Hw hpk,show k - 1+1=k by omega] at hz;rcases List.mem_cons.1 hz with rfl|hz
     ·rw[←eL];exact hgt
     ·exact k4 z hz,fun z hz=>by
     rcases List.mem_append.1 hz with hz|hz
     ·exact hmem z (Gf hz)
     ·rcases List.mem_cons.1 hz with rfl|hz
      ·exact hmem _ (He _)
      ·exact hmem z (G5 hz)⟩) (b:=by dsimp only;omega)
   ·refine VA ?_;rw[ep];refine VA ?_;refine Zab [] (hA:=ho) (hr:=?_);refine VA ?_;rw[show (L.map (ZaV u)).set k (.agg [iD l[acc.length].rule,Zan u l[acc.length].Ab])=(insT l[acc.length] acc).map (ZaV u) by
     rw[←Zdy,←GN,ZrW l[acc.length] acc k k1 k4 (by exact .inr ⟨k - 1,by omega,by omega,by rw[←eL];omega⟩)];congr 1;exact (Hy (fun z=>z.set k l[acc.length]) k3).trans (Zoc k1)]
    rw[eLl];exact Zad (acc.length+1,insT l[acc.length] acc) (a:=⟨by dsimp only;omega,by have:=(Zfb l[acc.length] acc).length_eq;simpa using this,by rw[ZmK hlt,←h3]⟩) (b:=by dsimp only;omega)
  ·obtain rfl:k=0:=by omega
   refine VA ?_;refine VB ?_;rw[show (L.map (ZaV u)).set 0 (.agg [iD l[acc.length].rule,Zan u l[acc.length].Ab])=(insT l[acc.length] acc).map (ZaV u) by
     rw[←Zdy,←GN,ZrW l[acc.length] acc 0 k1 k4 (by exact .inl rfl)];congr 1;exact (Hy (fun z=>z.set 0 l[acc.length]) k3).trans (Zoc k1)]
   rw[eLl];exact Zad (acc.length+1,insT l[acc.length] acc) (a:=⟨by dsimp only;omega,by have:=(Zfb l[acc.length] acc).length_eq;simpa using this,by rw[ZmK hlt,←h3]⟩) (b:=by dsimp only;omega)
 ·obtain rfl:i=l.length:=by omega
  rw[HO] at h3;subst h3;refine Zaz 900 rfl ?_;refine VA ?_;exact fin
theorem Zx3 {l:List Tree} {B:Nat} (h:∀ x∈l,cnt x≤B):cnts l≤B * l.length:=by
 induction l with
 | nil=>simp[cnts]
 | cons x l ih =>
  have h1:=h x (by simp);have h2:=ih (fun y hy=>h y (by simp[hy]));simp only[cnts,Hl,Jj];omega
theorem Zoe {g:Ac} {ks w:List Int} (hf:g.fit) (hk:ks.length≤100000000) (hw:w.length≤100000000) :
  Af Tryz.prog 4 [.d (Zbr false g),.d (ints false ks),.d (ints false w)] [] (B true) []:=by
 refine Af.intro (n:=70) Tryz.func4 (hw:=?_);simp only[Zal];have hhv:=Zpm (t:=false) (u:=false) hf hw;refine VA ?_;refine Zab [] (hA:=ZlR) (hr:=?_);refine VA ?_;refine Zab [] (hA:=hhv) (hr:=?_);cases h1:ZsU g w with
 | true=>repeat (first|refine wk ?_|refine Zaa (hr:=?_));exact fin
 | false =>
 by_cases h8:100 < ks.length
 ·refine VA ?_;exact fin
 have hA:=ZrQ (t:=false) (u:=false) (g:=g) (ks:=ks) hf hk;have hAf:=Zw0 (P:=pasS) (g:=g) (ks:=ks) Ztr;have hAl:=Zw1 (P:=pasS) (g:=g) (ks:=ks);have hL:=ZhI (t:=false) (u:=false) (v:=false) hf hAf (by omega);have hlf:=Ze1 hf hAf;have hh2:=Zpm (t:=false) (u:=false) hlf hw;have hT:=Zkv (w:=w) hf hAf (by omega) hw;have hE:=Zk5 (t:=false) (u:=false) hf hw;by_cases hz:(Zc0 pasS g ks).2.code=0
 ·have hsame:=ZBl (w:=w) hz;generalize Zc0 pasS g ks=A at *;obtain⟨A,⟨ac,aa⟩⟩:=A;dsimp only at hA hAf hAl hL hlf hh2 hz hT hsame;generalize hH:Za7 g A=G at *;refine VA ?_;refine Zab [] (hA:=hA) (hr:=?_);refine VA ?_;refine Zab [] (hA:=hL) (hr:=?_);refine VA ?_;refine Zab [] (hA:=hh2) (hr:=?_);cases h2:ZsU G w with
  | true=>repeat (first|refine wk ?_|refine Zaa (hr:=?_));exact fin
  | false =>
  by_cases he:(Zaw g w).2.code=0
  ·have hl:=Zbg he;have q1:=hl.len;have q2:=hl.few;have t1:=Zod (t:=false) (u:=false) (l:=(Zaw g w).1) (by omega) (fun x hx=>by have:=(hl.mem hx).2;omega);have t2:=ZnV (t:=false) (u:=false) (l:=Zcg (Zaw g w).1) (by
    have:=Zx3 (l:=Zcg (Zaw g w).1) (B:=400) (fun x hx=>(hl.mem ((ZcV _).mem_iff.1 hx)).2);rw[(ZcV _).length_eq] at this;have:400 * (Zaw g w).1.length≤400 * 200:=Ji _ (by omega)
    omega)
   have hs:=hsame he;clear hsame hl q1 q2 hhv hh2 hA hL;generalize Zaw g w=R at *;generalize ZfP g A w=M at *;obtain⟨l,⟨lc,la⟩⟩:=R;obtain⟨m,⟨mc,ma⟩⟩:=M;dsimp only at *;rcases hs with ⟨s1,s2⟩|s1
   ·subst s2;refine VA ?_;refine Zab [] (hA:=hE) (hr:=?_);refine VA ?_;refine Zab [] (hA:=hT) (hr:=?_);refine VA ?_;refine Zab [] (hA:=t1) (hr:=?_);refine VA ?_;refine Zab [] (hA:=t2) (hr:=?_);refine VA ?_;exact fin
   ·subst s1;refine VA ?_;refine Zab [] (hA:=hE) (hr:=?_);refine VA ?_;refine Zab [] (hA:=hT) (hr:=?_);refine VA ?_;exact fin
  ·clear hsame hhv hh2 hA hL;generalize Zaw g w=R at *;generalize ZfP g A w=M at *;obtain⟨l,⟨lc,la⟩⟩:=R;obtain⟨m,⟨mc,ma⟩⟩:=M;dsimp only at *;refine VA ?_;refine Zab [] (hA:=hE) (hr:=?_);refine VA ?_;refine Zab [] (hA:=hT) (hr:=?_);refine VA ?_;exact fin
 ·generalize Zc0 pasS g ks=A at *;obtain⟨A,⟨ac,aa⟩⟩:=A;dsimp only at hA hz;refine VA ?_;refine Zab [] (hA:=hA) (hr:=?_);refine VA ?_;exact fin
open Go.ChangeShapes Go.WideShapes Go.ChangeAt Go.RowKit
open Go.Deep (open_slice)
theorem Ext.below {w w':World} (h:Ext NoB w w'):Below w.heap.size w w' :=
 ⟨h.os,h.tape,h.output,h.size,fun k hk=>h.block k hk (fun x=>x)⟩
theorem Tryz.laidOut:laidOutB Tryz.prog=true:=by kernel_rfl
theorem Tryz.ownKnob:ownKnob Tryz.prog.godebug=none:=by kernel_rfl
theorem ZhS {H:Type} {enc:TypeId×Value→H} {P:Program} (hl:laidOutB P=true) {W W':World} (hE:Ext NoB W W') :
  ∀ {ts:List TypeId} {vs:List Value} {ds:List (DataW H)} {ps:List MemPlace},(∀ t∈ts,P.readableRec t=true∧t < P.types.size) →
   DataW.TrodAll enc P W 0 (fun _=>true) true ts vs ds ps→(∀ x∈ps,x.block < W.heap.size)→DataW.TrodAll enc P W' 0 (fun b=>decide (b < W.heap.size)) true ts vs ds ps
 | [],vs,ds,ps,_,h,_=>by
  obtain⟨rfl,rfl,rfl⟩:=trodAll_nil h;exact trodAll_mk0
 | t::ts,vs,ds,ps,ht,h,hp=>by
  obtain⟨v,vs',d,ds',p,q,rfl,rfl,rfl,h1,h2⟩:=trodAll_cons h;refine⟨p,q,?_,ZhS hl hE (fun t' ht'=>ht t' (by simp[ht'])) h2 (fun x hx=>hp x (by simp[hx])),rfl⟩;exact Below.trod hl (ht t (by simp)).1 (ht t (by simp)).2 h1 hE.below (fun x hx=>hp x (by simp[hx]))
theorem ZA0 {H:Type} {enc:TypeId×Value→H} {P:Program} {f:Func} {s:ChangeSpec} {W W':World} {args:Array Value} {ds gs:List (DataW H)} {before:List MemPlace}
  (hl:laidOutB P=true) (ht:∀ t∈f.params.toList,P.readableRec t=true∧t < P.types.size) (tb:TypeId) (hf:f.resultTypes=#[tb]) (hb:P.underlying tb=some .bool)
  (hW:DataW.Whole enc P f.params.toList s.vars false W args.toList ds gs before) (hv:s.vars=[]) (hs:s.fn H (ds++gs)={ results:=[.lit (.bool true)],args:=ds }) (hE:Ext NoB W W') :
  s.post enc P f false true false false W args (.bool true) W':=by
 have hW':=hW;obtain⟨p,q,hA,hV,rfl,hfz,hnd⟩:=hW;rw[hv] at hV;obtain⟨rfl,rfl⟩:=trodVars_none hV;have hlt:=hW'.lt;refine⟨ds,[],p++[],[],p,[],hW',?_,?_,?_,hE.below.frame _,fun h=>by cases h⟩
 ·rw[hs,hf];exact trodAll_cons_mk (p:=[]) (p':=[]) (shut_bool hb true) trodAll_mk0
 ·rw[hs];exact ZhS hl hE ht hA (fun x hx=>hlt x (by simp[hx]))
 ·rw[hs,hv];exact rfl
def M0:Bars:=fun _ _=>False
theorem ZA1 (E:Env):bars E [] M0=M0:=by
 funext t b;simp[bars,Live,Ai,Ah,M0]
def RepsV (w:World):List D→List Value→Prop
 | [],us=>us=[]
 | d::ds,us=>∃ u r,us=u::r∧d.RepV M0 w u∧RepsV w ds r
theorem RepsV.reps {E:Env} {w:World}:∀ {ds:List D} {us:List Value},RepsV w ds us→V.Reps E [] M0 w (ds.map V.d) us
 | [],_,h=>by simpa[RepsV,V.Reps] using h
 | d::ds,_,h=>by
  obtain⟨u,r,rfl,h1,h2⟩:=h;simp only[Hm,V.Reps,V.Rep];exact⟨u,r,rfl,h1,h2.reps⟩
theorem Zx4:∀ (ds:List D),V.keyss (ds.map V.d)=[]
 | []=>rfl
 | d::ds=>by simp[V.keyss,V.keys,Zx4 ds]
theorem Af.law {P:Program} {f:FuncId} {ds:List D} (hc:Af P f (ds.map V.d) [] (B true) []) {w:World} {us:List Value} (hr:RepsV w ds us) :
  Calls P f us.toArray w fun e w'=>e=.returned (.bool true)∧Ext NoB w w':=by
 have E:Env:=⟨fun _=>0,fun _=>undef,fun _=>[]⟩
 refine (hc.run E w us M0 ⟨by simp[Ah],by simp[Ai,Ah],by simp[Ah]⟩ (by rw[ZA1];exact hr.reps) (by rw[Zx4];simp) (by simp[M0]) (by simp[M0])).mono ?_;rintro e w' ⟨E',u,rfl,_,h2,_,h3,_⟩;simp only[V.Rep,D.RepV,D.Rep,Hz,HA] at h2;exact⟨by rw[h2.1],h3.mono (fun x hx=>by obtain⟨k,hk⟩:=hx;simp[Ai,Ah] at hk)⟩
section
variable {H:Type}
theorem Ztw (d:DataW H):1≤Rows.uptoBulk d:=by
 cases d with
 | lit l=>cases l <;> simp[Rows.uptoBulk]
 | _=>simp[Rows.uptoBulk]
theorem Ztx:∀ (ds:List (DataW H)),ds.length≤Rows.uptoBulkAll ds
 | []=>by simp
 | d::r=>by have:=Ztw d;have:=Ztx r;simp only[Hl,Rows.uptoBulkAll];omega
theorem Zty:∀ {ds:List (DataW H)} {d:DataW H},d∈ds→Rows.uptoBulk d≤Rows.uptoBulkAll ds
 | [],_,h=>by cases h
 | x::r,d,h=>by
  simp only[Rows.uptoBulkAll];rcases List.mem_cons.1 h with rfl|h
  ·omega
  ·have:=Zty h;omega
end
def Rd (P:Program) (t:TypeId) {α:Type} (f:α→D) (Φ:α→Nat→Prop):Prop :=
 ∀ (H:Type) (enc:TypeId×Value→H) (w:World) (held:Bool) (n:Nat) (cs:List Value) (y:DataW H×List MemPlace),DataW.trod enc P w 0 (fun _=>true) held n t cs=some y→∃ r:α,(f r).Rep M0 w cs∧Φ r (Rows.uptoBulk y.1)
def RdN (P:Program) (N:Nat) (t:TypeId) {α:Type} (f:α→D) (Φ:α→Nat→Prop):Prop :=
 ∀ (H:Type) (enc:TypeId×Value→H) (w:World) (held:Bool) (n:Nat) (cs:List Value) (y:DataW H×List MemPlace),n < N→DataW.trod enc P w 0 (fun _=>true) held n t cs=some y→∃ r:α,(f r).Rep M0 w cs∧Φ r (Rows.uptoBulk y.1)
theorem Rd.n {P:Program} {t:TypeId} {α:Type} {f:α→D} {Φ:α→Nat→Prop} (h:Rd P t f Φ) (N:Nat):RdN P N t f Φ :=
 fun H enc w held n cs y _ hy=>h H enc w held n cs y hy
theorem ZEh {P:Program} {t:TypeId} {k:IntKind} (hu:P.underlying t=some (.int k)):Rd P t (fun n:Int=>.raw (.int k n)) (fun _ _=>True):=fun H enc w held n cs y h=>by
 obtain⟨n,rfl,rfl,_⟩:=DataW.trod_int hu h;exact⟨n,by simp[D.Rep,Value.oneCell'],trivial⟩
theorem Zx5 {w:World} {α:Type} {f:α→D} {sz:Nat} (hfs:∀ r,(f r).size=sz) (b off:Nat):∀ (n:Nat) (g:Nat→α) (C:Nat→List Value),(∀ i,i < n→(f (g i)).Rep M0 w (C i)∧∀ j,j < sz→w.cell? ⟨b,off+(i * sz+j),none⟩=(C i)[j]?) →
  ∃ es,D.Reps M0 w (((List.range n).map g).map f) es∧∀ j,j < es.length→w.cell? ⟨b,off+j,none⟩=es[j]?
 | 0,_,_,_=>⟨[],by simp[D.Reps],by simp⟩
 | n+1,g,C,h=>by
  obtain⟨es,h1,h2⟩:=Zx5 hfs b off n g C (fun i hi=>h i (by omega));obtain⟨k1,k3⟩:=h n (by omega);have hl:es.length=n * sz:=by
   have:=D.Reps.length h1;rw[D.sizes_eq (sz:=sz) (by intro x hx;obtain⟨r,_,rfl⟩:=List.mem_map.1 hx;exact hfs r)] at this;simpa using this
  have hc:(C n).length=sz:=(D.Rep.length k1).trans (hfs _);refine⟨es++C n,?_,fun j hj=>?_⟩
  ·rw[Gn,Ho,Ho];exact D.Reps.append h1 (by simpa using D.Reps.single.2 k1)
  ·rw[Hk] at hj;by_cases hjl:j < es.length
   ·rw[GH hjl];exact h2 j hjl
   ·rw[Gp (by omega),←k3 (j - es.length) (by omega),hl];congr 2;omega
def ZCS {α:Type} (Φ:α→Nat→Prop) (rs:List α) (N:Nat):Prop:=rs.length≤N∧∀ r∈rs,Φ r N
theorem Zvi {P:Program} {N:Nat} {t e:TypeId} {sz:Nat} {α:Type} [Inhabited α] {f:α→D} {Φ:α→Nat→Prop} (ht:P.underlying t=some (.slice e)) (hc:P.cellsOf e=sz) (hsz:0 < sz) (hfs:∀ r,(f r).size=sz)
  (he:RdN P N e f Φ) {H:Type} {enc:TypeId×Value→H} {w:World} {held:Bool} {n:Nat} {cs:List Value} {x:DataW H×List MemPlace} (hn:n < N+1) (h:DataW.trod enc P w 0 (fun _=>true) held n t cs=some x) :
  ∃ (rs:List α) (els rest:List (DataW H)),(D.sl false sz (rs.map f)).Rep M0 w cs∧Rows.uptoBulkAll els≤Rows.uptoBulk x.1 - 1∧rs.length=els.length∧∀ i (h1:i < rs.length) (h2:i < els.length),Φ rs[i] (Rows.uptoBulk els[i]):=by
 rcases DataW.trod_slice ht h with ⟨rfl,rfl⟩|⟨a,len,cap,elems,rest,n',hn',rfl,rfl,_,hl,hm,hlen,hel,_,_⟩
 ·refine⟨[],[],[],?_,by simp[Rows.uptoBulkAll],rfl,by simp⟩;simp only[D.Rep];exact⟨none,0,[],by simp,by simp,by simp[maxLen],by simp,by simp[D.Reps],by simp⟩
 ·have hex:∀ i,∃ r:α×List Value,∀ (hi:i < len),(f r.1).Rep M0 w r.2∧Φ r.1 (Rows.uptoBulk (elems[i]'(by omega)).1)∧w.cells? 0 (a.add (i * P.cellsOf e)) (P.cellsOf e)=some r.2:=fun i=>by
   by_cases hi:i < len
   ·have hb:=hel i hi;rw[Hj (by omega)] at hb;obtain⟨cs',h1,h2⟩:=Option.bind_eq_some_iff.1 hb;obtain⟨r,h3,h4⟩:=he H enc w held n' cs' _ (by omega) h2;exact⟨(r,cs'),fun _=>⟨h3,h4,h1⟩⟩
   ·exact⟨(default,[]),fun h=>absurd h hi⟩
  obtain⟨G,hG⟩:=Classical.axiomOfChoice hex;rw[hc] at hG;have hb:0 < len→∃ b off,a=⟨b,off,none⟩∧b < w.heap.size:=fun h0=>by
   obtain⟨_,_,h3⟩:=hG 0 h0;have hlt:=World.cells?_block h3 hsz;obtain⟨_,h5,h6⟩:=World.cells?_some h3;have h7:=h6 0 hsz;obtain⟨b,off,spot⟩:=a;have h8:∃ u,(G 0).2[0]? = some u:=⟨_,Hj (by omega)⟩
   obtain⟨u,hu⟩:=h8;rw[hu] at h7;have hspot:spot=none:=by simpa[Addr.add] using World.cell?_spot h7
   subst hspot;exact⟨b,off,rfl,by simpa[Addr.add] using hlt⟩
  refine⟨(List.range len).map fun i=>(G i).1,elems.map (·.1),[],?_,?_,by simp[hlen],?_⟩
  ·rcases Nat.eq_zero_or_pos len with rfl|h0
   ·simp only[D.Rep];exact⟨some a,cap,[],by simp,by simp,hm,by simp,by simp[D.Reps],by simp⟩
   ·obtain⟨b,off,rfl,hbs⟩:=hb h0;obtain⟨es,h1,h2⟩:=Zx5 (f:=f) hfs b off len (fun i=>(G i).1) (fun i=>(G i).2) (fun i hi=>by
     obtain⟨g1,_,g3⟩:=hG i hi;obtain⟨_,g5,g6⟩:=World.cells?_some g3;refine⟨g1,fun j hj=>?_⟩;rw[←g6 j hj];congr 1;simp only[Addr.add];split <;> split <;> simp_all <;> omega)
    simp only[D.Rep];refine⟨some ⟨b,off,none⟩,cap,es,by simp,by simpa using hl,hm,?_,h1,fun _=>⟨b,off,rfl,by simp[M0],hbs,h2⟩⟩;intro x hx;obtain⟨r,_,rfl⟩:=List.mem_map.1 hx;exact hfs r
  ·simp only[Rows.uptoBulk];omega
  ·intro i h1 h2;have hi:i < len:=by simpa using h1
   have:=(hG i hi).2.1;simpa using this
theorem Zx6 {P:Program} {N:Nat} {t e:TypeId} {sz:Nat} {α:Type} [Inhabited α] {f:α→D} {Φ:α→Nat→Prop} (ht:P.underlying t=some (.slice e)) (hc:P.cellsOf e=sz) (hsz:0 < sz) (hfs:∀ r,(f r).size=sz) (hΦ:∀ r m n,Φ r m→m≤n→Φ r n)
  (he:RdN P N e f Φ):RdN P (N+1) t (fun rs:List α=>.sl false sz (rs.map f)) (ZCS Φ):=by
 intro H enc w held n cs x hn h;obtain⟨rs,els,_,h1,h2,h3,h4⟩:=Zvi ht hc hsz hfs he hn h;refine⟨rs,h1,?_,fun r hr=>?_⟩
 ·have:=Ztx els;have:=Ztw x.1;omega
 ·obtain⟨i,hi,rfl⟩:=List.getElem_of_mem hr;have:=Zty (ds:=els) (d:=els[i]'(by omega)) (He _);exact hΦ _ _ _ (h4 i hi (by omega)) (by omega)
theorem Ztz {P:Program} {t e:TypeId} {sz:Nat} {α:Type} [Inhabited α] {f:α→D} {Φ:α→Nat→Prop} (ht:P.underlying t=some (.slice e)) (hc:P.cellsOf e=sz) (hsz:0 < sz) (hfs:∀ r,(f r).size=sz) (hΦ:∀ r m n,Φ r m→m≤n→Φ r n)
  (he:Rd P e f Φ):Rd P t (fun rs:List α=>.sl false sz (rs.map f)) (ZCS Φ) :=
 fun H enc w held n cs y h=>Zx6 ht hc hsz hfs hΦ (he.n n) H enc w held n cs y (Gk _) h
theorem Zd2 {w:World} {d:D} {ds:List D} {c r:List Value} (h1:d.Rep M0 w c) (h2:D.Reps M0 w ds r):D.Reps M0 w (d::ds) (c++r):=by
 simp only[D.Reps];exact⟨c,r,rfl,h1,h2⟩
theorem Zqa {w:World}:D.Reps M0 w [] []:=by simp[D.Reps]
theorem ZCT {P:Program} {t:TypeId} {fs:Array Field} {α:Type} {f:α→List D} {Φ:α→Nat→Prop} (hu:P.underlying t=some (.struct fs)) (hr:Rd P t (fun a=>.agg (f a)) Φ) {H:Type} {enc:TypeId×Value→H} {w:World} {base:Nat} {v:Value} {d:DataW H} {p:List MemPlace}
  (hval:Value.okWide P w .any base t v) (h:DataW.Trod enc P w 0 (fun _=>true) true t v d p):∃ r:α,(D.agg (f r)).RepV M0 w v∧Φ r (Rows.uptoBulk d):=by
 unfold Value.okWide at hval;rw[hu] at hval;obtain⟨cs,rfl,_⟩:=hval;obtain⟨fuel,h⟩:=h;obtain⟨r,h1,h2⟩:=hr H enc w true fuel _ _ h;refine⟨r,⟨cs.toList,by simp,?_⟩,h2⟩;simpa[Value.cells,D.Rep] using h1
theorem Zqb {P:Program} {t e:TypeId} {sz:Nat} {α:Type} {f:α→List D} {Φ:α→Nat→Prop} (hu:P.underlying t=some (.slice e)) (hr:Rd P t (fun a=>.sl false sz (f a)) Φ) {H:Type} {enc:TypeId×Value→H} {w:World} {base:Nat} {v:Value} {d:DataW H} {p:List MemPlace}
  (hval:Value.okWide P w .any base t v) (h:DataW.Trod enc P w 0 (fun _=>true) true t v d p):∃ r:α,(D.sl false sz (f r)).RepV M0 w v∧Φ r (Rows.uptoBulk d):=by
 obtain⟨fuel,h⟩:=h;obtain⟨r,h1,h2⟩:=hr H enc w true fuel _ _ h;refine⟨r,?_,h2⟩;have hv:v.cells=#[v]:=by
  unfold Value.okWide at hval;rw[hu] at hval;cases v with
  | agg cs=>simp[Cell.okWide,Cell.ok,hu] at hval
  | _=>rfl
 rw[hv] at h1;exact h1
open Go.ChangeShapes Go.WideShapes Go.ChangeAt Go.RowKit
theorem Zk6:Tryz.prog.cellsOf 3=1:=by kernel_rfl
theorem Zvj:Tryz.prog.cellsOf 25=1:=by kernel_rfl
theorem ZmL:Tryz.prog.cellsOf 68=2:=by kernel_rfl
theorem ZrX:Tryz.prog.cellsOf 22=1:=by kernel_rfl
theorem Zvk:Tryz.prog.cellsOf 24=4:=by kernel_rfl
theorem Zx7:Rd Tryz.prog 3 iD (fun _ _=>True):=ZEh Tryz.underlying3
theorem Zx8:Rd Tryz.prog 25 (fun xs:List Int=>ints false xs) (fun xs n=>xs.length≤n):=fun H enc w held n cs y h=>by
 obtain⟨rs,h1,h2⟩:=Ztz Tryz.underlying25 Zk6 (by decide) (fun _=>rfl) (fun _ _ _ _ _=>trivial) Zx7 H enc w held n cs y h;exact⟨rs,h1,h2.1⟩
theorem ZEi:Rd Tryz.prog 68 (Za3 false) (fun r n=>r.right.length≤n):=fun H enc w held n cs x h=>by
 obtain⟨xs,n,rfl,rfl,hl,hx,hf⟩:=DataW.trod_struct Tryz.underlying68 h;have f0:=hf 0 _ rfl;have f1:=hf 1 _ rfl;clear hf;replace hl:=hl.trans ZmL
 match cs,hl,xs,hx with
 | [c0,c1],_,[x0,x1],_ =>
  simp only[Zk6,Zvj,Gl,GZ,GT,GW,G3,JS] at f0 f1;obtain⟨l,h1,_⟩:=Zx7 _ _ _ _ _ _ _ f0;obtain⟨rt,h2,h3⟩:=Zx8 _ _ _ _ _ _ _ f1;refine⟨⟨l,rt⟩,?_,?_⟩
  ·simp only[Za3,D.Rep];exact Zd2 (c:=[c0]) h1 (Zd2 (c:=[c1]) h2 Zqa)
  ·simp[Rows.uptoBulk,Rows.uptoBulkAll];omega
theorem ZCU:Rd Tryz.prog 22 (fun rs:List Rule=>ZaS false rs) (ZCS (fun r n=>r.right.length≤n)) :=
 Ztz Tryz.underlying22 ZmL (by decide) (fun _=>rfl) (fun _ _ _ h hm=>Hq h hm) ZEi
def Ac.le (g:Ac) (n:Nat):Prop:=g.Aa.length≤n∧∀ r∈g.Aa,r.right.length≤n
theorem ZEj:Rd Tryz.prog 24 (fun g:Ac=>.agg [iD g.vars,iD g.terms,iD g.start,ZaS false g.Aa]) Ac.le:=fun H enc w held n cs x h=>by
 obtain⟨xs,n,rfl,rfl,hl,hx,hf⟩:=DataW.trod_struct Tryz.underlying24 h;have f0:=hf 0 _ rfl;have f1:=hf 1 _ rfl;have f2:=hf 2 _ rfl;have f3:=hf 3 _ rfl;clear hf;replace hl:=hl.trans Zvk
 match cs,hl,xs,hx with
 | [c0,c1,c2,c3],_,[x0,x1,x2,x3],_ =>
  simp only[Zk6,ZrX,Gl,GZ,GT,GW,G3,JS] at f0 f1 f2 f3;obtain⟨a,h0,_⟩:=Zx7 _ _ _ _ _ _ _ f0;obtain⟨b,h1,_⟩:=Zx7 _ _ _ _ _ _ _ f1;obtain⟨c,h2,_⟩:=Zx7 _ _ _ _ _ _ _ f2;obtain⟨rs,h3,h4,h5⟩:=ZCU _ _ _ _ _ _ _ f3;have hb:Rows.uptoBulk x3.1≤Rows.uptoBulk (DataW.agg [x0.1,x1.1,x2.1,x3.1]):=by simp[Rows.uptoBulk,Rows.uptoBulkAll];omega
  refine⟨⟨a,b,c,rs⟩,?_,Hq h4 hb,fun r hr=>Hq (h5 r hr) hb⟩;simp only[D.Rep];exact Zd2 (c:=[c0]) h0 (Zd2 (c:=[c1]) h1 (Zd2 (c:=[c2]) h2 (Zd2 (c:=[c3]) h3 Zqa)))
open Go.ChangeShapes Go.WideShapes Go.ChangeAt Go.RowKit
open Go.ChangeShapes Go.WideShapes Go.ChangeAt Go.RowKit
theorem Ac.le.fit {g:Ac} {n:Nat} (h:g.le n) (hn:n≤100000000):g.fit:=⟨Hq h.1 hn,fun r hr=>Hq (h.2 r hr) hn⟩
end Go.Proofs.YtbpmepgnjanhnaaGreat
