import Derived.Test.YtbpmepgnjanhnaaGreatQChartJ
import Derived.Test.YtbpmepgnjanhnaaGreatSyA
set_option linter.unusedVariables false
set_option linter.unusedSimpArgs false
set_option linter.unusedSectionVars false
set_option maxHeartbeats 4000000
set_option maxRecDepth 100000
namespace Go.Proofs.YtbpmepgnjanhnaaGreat
open Go.RowKit
section
variable {P:Program} {n:Nat} {dr:Bool} {ops:Array Oper} {rest:List Oper} {log:List Rec} {K:Exit→Fr→Hp→Prop} {fr:Fr} {h:Hp}
variable {d:Nat} {ty:TypeId} {pos:String} {after:Array Edge} {g:Option (Nat×Bool)}
theorem ZzH (T:TT P) {t:TypeId} {y:Ty} (hdn:Nat.blt d n=true) (hg:gOk ops fr g) (ht:T.rows[t]? = some y) (hz:y.zero=some (.agg #[])) (hu:P.underlying t=some (.struct #[]))
  (hr:dops P n dr ops rest (⟨(gIns ops g++Zaq [] []).map Prod.fst,[d],[],[]⟩::log) K ((d,.agg [])::fr) h):dops P n dr ops (⟨some d,.build t #[],ty,pos,after,g⟩::rest) log K fr h:=by
 refine ZaA (ins:=gIns ops g++Zaq [] []) (objs:=[]) (v:=.agg []) (upd:=[]) (LStep.pure rfl hdn rfl hg _ _ _ fun G E fr' h' a w C hi _=>?_) (Zc7 hg (ZbK ZdC)) (by simp) hr;obtain⟨i,ds,k1,k2,_,_,_,k6,_,_,k9⟩:=ZaH (T.at ht);refine⟨.agg #[],?_,by simp only[V.Rep];exact⟨[],rfl,by simp[V.Reps],by simp⟩,fun j hj=>by simp[V.keys,V.keyss] at hj⟩;have hzz:(zeroValue t).run P w=.ok (.agg #[]) w:=by
  unfold zeroValue typeInfo;simp[k1,k6,hz]
 have hfin:(Instr.build t ((#[]:Array (Nat×Operand)).map fun p=>(p.1,a.eval p.2))).run P w=.ok (.agg #[]) w:=by
  unfold Instr.build;simp[hzz,run_underlying hu,Instr.fill,Value.cells]
 simp only[execOp,Sem.run_bind,hfin,Result.andThen_ok,Sem.run_pure]
end
abbrev frBx (t:Bool) (g:Ac) (k:Nat) (L:Nat):Ob:=.box 80 [.ptr k 0,.d (iD g.vars),.d (iD g.terms),.d (iD g.start),.d (ZaS t g.Aa),I L]
abbrev frH (t:Bool) (g:Ac) (w:List Int) (L:Nat):Hp:=[(1000,frBx t g 1001 L),(1001,cxBx g w (nulB g) 1002),(1002,.mp (ZbD (Ak g w Zae)))]
def Ziq:Value:=.iface 104 (.agg #[])
def Zux (t:Bool) (g:Ac) (w:List Int) (f:FuncId) (args:List V) (L:Nat):Option (D×Nat)→Prop
 | some (v,L')=>Af Tryz.prog f args (frH t g w L) (.d v) (frH t g w L')
 | none=>APan Tryz.prog f args (frH t g w L) Ziq (frH t g w 0)
section
variable {t:Bool} {g:Ac} {w:List Int}
abbrev Zuy (g:Ac) (w:List Int) (d v i j k L:Nat):Option (D×Nat):=(Zdi g (Ak g w Zae) w d v i j k L).map fun x=>(Zbz false x.1,x.2)
abbrev ZzI (g:Ac) (w:List Int) (d j:Nat) (r:List Int) (i k L:Nat):Option (D×Nat):=(rowF (Ak g w Zae) w (Zdi g (Ak g w Zae) w d) j r i k L).map fun x=>(Zan false x.1,x.2)
theorem Zmb {v i j k:Int}:APan Tryz.prog 80 [.ptr 1000 0,I v,I i,I j,I k] (frH t g w 0) Ziq (frH t g w 0):=by
 dsimp only [frH];generalize Ak g w Zae=N at *;generalize nulB g=NB at *;refine APan.intro (n:=67) Tryz.func80 rfl rfl (by simp) (by rfl) rfl ?_;simp only[Zal];refine VA ?_;refine ZzH TY rfl Zag rfl rfl Tryz.underlying104 ?_;refine VA ?_;refine Zse rfl Zag rfl rfl rfl Tryz.underlying104 rfl ?_;refine Zsf [(1000,some (frBx t g 1001 0)),(1001,some (cxBx g w NB 1002)),(1002,some (.mp (ZbD N)))] 999 Zag rfl (fun p hp=>by rcases List.mem_cons.1 hp with rfl|hp;exact rfl;rcases List.mem_cons.1 hp with rfl|hp;exact rfl;rw[List.mem_singleton.1 hp];rfl) (fun fr' h' ho=>⟨rfl,⟨Ap.of (ho _ HT),Ap.of (ho _ (HK _ HT)),Ap.of (ho _ (HK _ (HK _ (List.mem_singleton.2 rfl)))),trivial⟩,rfl⟩) ?_;refine ZcK (Zb2 ?_);exact ZqK (Nev.obj 999 rfl)
theorem Zuz (hC:ChOk g w) {d:Nat} (hK:∀ r i j k L,∀ h:r < g.Aa.length,i≤j→j≤w.length→L≤d→k < wcn (Ak g w Zae) w g.Aa[r].right i j→wcn (Ak g w Zae) w g.Aa[r].right i j < Zae→Zux t g w 154 [.ptr 1000 0,I (r:Nat),I 0,I (i:Nat),I (j:Nat),I (k:Nat)] L (ZzI g w d j g.Aa[r].right i k L))
  {v i j k L:Nat} (hv:((v:Nat):Int) < g.vars) (hij:i≤j) (hj:j≤w.length) (hL:L≤d+1) (hd:d≤1000) (hk:k < Ak g w Zae v i j) (hM:Ak g w Zae v i j < Zae) :
  Zux t g w 80 [.ptr 1000 0,I (v:Nat),I (i:Nat),I (j:Nat),I (k:Nat)] L (Zuy g w (d+1) v i j k L):=by
 obtain⟨s1,s2⟩:=hC.small;have hg:=hC.ok;have hlen:=hC.len;unfold Zuy;rw[Zdi];by_cases hz:L=0
 ·subst hz;rw[Hb rfl];exact Zmb
 rw[Ha hz];obtain⟨r0,a,hr0,e1,e2,e3,e4,e5⟩:=ZpX (ZkW g w Zae) hv hij hj hk hM;rw[e1];dsimp only;rw[ZiO hr0];have hk0:=hK r0 i j a (L - 1) hr0 hij hj (by omega) e3 (by omega);unfold ZzI at hk0;have hru:=fun (r:Nat)=>ZwH hg hC.cyc s1 s2 (r:Int) (i:Int) (j:Int)
 obtain⟨L0,rfl⟩:∃ L0,L=L0+1:=⟨L - 1,by omega⟩
 rw[Nat.add_sub_cancel] at hk0 ⊢;have hkM:k < Zae:=by omega
 obtain⟨Q,hQ⟩:∃ Q:Int,Q=4611686018427387904:=⟨_,rfl⟩
 have hkM:((k:Nat):Int) < Q:=by unfold Zae at hkM;omega
 have hrl:=hg.Aa;have hL1:((L0+1:Nat):Int) - 1=(L0:Int):=by omega
 have hLz:1≤((L0+1:Nat):Int):=by omega
 have hLm:((L0+1:Nat):Int)≤100000:=by omega
 have hrN:∀ r,∀ h:r < g.Aa.length,g.Aa[r].left=(v:Int)→r≤r0→ruC g w Zae (Ak g w Zae) r i j=wcn (Ak g w Zae) w g.Aa[r].right i j:=fun r h e hle=>by
  unfold ruC;rw[Hb (by omega),Zax h];simp only[Hn];have q1:=ZBY (N:=Ak g w Zae) (w:=w) (v:=v) (i:=i) (j:=j) h e;have q2:=Zro (f:=fR g (Ak g w Zae) w v i j) (n:=g.Aa.length) (k:=r) h;have q3:=ZkW g w Zae v i j hv hij hj;omega
 have hFn:∀ r,∀ h:r < g.Aa.length,¬ g.Aa[r].left=(v:Int)→Al (r+1) (fR g (Ak g w Zae) w v i j)=Al r (fR g (Ak g w Zae) w v i j):=fun r h e=>by
  show Al r _+fR g _ w v i j r=_;rw[ZEX h e];rfl
 have hFy:∀ r,∀ h:r < g.Aa.length,g.Aa[r].left=(v:Int)→Al (r+1) (fR g (Ak g w Zae) w v i j)=Al r (fR g (Ak g w Zae) w v i j)+wcn (Ak g w Zae) w g.Aa[r].right i j:=fun r h e=>by
  show Al r _+fR g _ w v i j r=_;rw[ZBY h e]
 have hFu:∀ r,r < r0→Al (r+1) (fR g (Ak g w Zae) w v i j)≤k:=fun r h=>by
  have:=ZnZ (F:=fR g (Ak g w Zae) w v i j) (m:=r+1) (n:=r0) h;omega
 have hFu0:∀ r,r≤r0→Al r (fR g (Ak g w Zae) w v i j)≤k:=fun r h=>by
  have:=ZnZ (F:=fR g (Ak g w Zae) w v i j) (m:=r) (n:=r0) h;omega
 cases hrow:rowF (Ak g w Zae) w (Zdi g (Ak g w Zae) w d) j g.Aa[r0].right i a L0 with
 | none =>
  rw[hrow] at hk0;replace hk0:APan Tryz.prog 154 [.ptr 1000 0,I (r0:Nat),I 0,I (i:Nat),I (j:Nat),I (a:Nat)] (frH t g w L0) Ziq (frH t g w 0):=hk0;show APan _ _ _ _ _ _;clear hrow;dsimp only [frH,frBx] at hk0 ⊢;generalize Ak g w Zae=N at *;generalize nulB g=NB at *;generalize ((L0+1:Nat):Int)=Lz at *;refine APan.intro (n:=67) Tryz.func80 rfl rfl (by simp) (by rfl) rfl ?_;simp only[Zal];refine VA ?_;rw[hL1];refine Zak (X:=Nat) (fun r=>r≤r0) (fun r=>[(34,I r),(33,I g.Aa.length),(32,.d (ZaS t g.Aa)),(10,.ptr 10 0),(0,.ptr 1000 0),(1,I v),(2,I i),(3,I j),(4,I ((k - Al r (fR g N w v i j):Nat):Int))]) (fun r=>[(10,.box 56 [.d (iD 0),.d (.raw (.slice none 0 0))]),(1000,frBx t g 1001 L0),(1001,cxBx g w NB 1002),(1002,.mp (ZbD N))]) (fun r=>r0 - r) 0 (Hh _) ?_;intro r hr;have hlt:r < g.Aa.length:=by omega
  by_cases hl:g.Aa[r].left=(v:Int)
  ·have h1:=hru r;rw[hrN r hlt hl hr] at h1;have hy:=hFy r hlt hl;have hu0:=hFu0 r hr;by_cases he:r=r0
   ·subst he;have ea:k - Al r (fR g N w v i j)=a:=(by omega);rw[ea];generalize wcn N w g.Aa[r].right i j=c at *;have hac:(a:Int) < (c:Int):=(by omega);refine VA ?_;refine Zau [(1000,1001),(1001,1002)] (hA:=h1) (hr:=?_);refine VA ?_;refine Zet [(1000,1000),(1001,1001),(1002,1002)] [] [] (hpn:=by exact (fun fr' h' _ _=>⟨rfl,⟨Ap.of rfl,Ap.of rfl,Ap.of rfl,trivial⟩,rfl⟩)) (hA:=hk0)
   ·have hr2:r < r0:=(by omega);have hu:=hFu r hr2;have ea:((k - Al r (fR g N w v i j):Nat):Int) - (wcn N w g.Aa[r].right i j:Nat)=((k - Al (r+1) (fR g N w v i j):Nat):Int):=(by omega);have hac:¬ ((k - Al r (fR g N w v i j):Nat):Int) < (wcn N w g.Aa[r].right i j:Nat):=(by omega);have hb:((k - Al r (fR g N w v i j):Nat):Int) < Q:=(by omega);have hb2:((k - Al (r+1) (fR g N w v i j):Nat):Int) < Q:=(by omega);generalize k - Al r (fR g N w v i j)=c1 at *;generalize hc2:k - Al (r+1) (fR g N w v i j)=c2 at *;generalize wcn N w g.Aa[r].right i j=c at *;refine VA ?_;refine Zau [(1000,1001),(1001,1002)] (hA:=h1) (hr:=?_);refine VA ?_;rw[ea];subst hc2;exact Zad (r+1)
  ·have hr2:r < r0:=HN fun hn=>hl (by have q:r=r0:=(by omega);subst q;exact e2)
   rw[←hFn r hlt hl];refine VA ?_;exact Zad (r+1)
 | some y =>
  rw[hrow] at hk0;obtain⟨l,L2⟩:=y;replace hk0:Af Tryz.prog 154 [.ptr 1000 0,I (r0:Nat),I 0,I (i:Nat),I (j:Nat),I (a:Nat)] (frH t g w L0) (.d (Zan false l)) (frH t g w L2):=hk0;show Af _ _ _ _ _ _;clear hrow;dsimp only [frH,frBx] at hk0 ⊢;generalize Ak g w Zae=N at *;generalize nulB g=NB at *;generalize ((L0+1:Nat):Int)=Lz at *;refine Af.intro (n:=67) Tryz.func80 (hw:=?_);simp only[Zal];refine VA ?_;rw[hL1];refine Zak (X:=Nat) (fun r=>r≤r0) (fun r=>[(34,I r),(33,I g.Aa.length),(32,.d (ZaS t g.Aa)),(10,.ptr 10 0),(0,.ptr 1000 0),(1,I v),(2,I i),(3,I j),(4,I ((k - Al r (fR g N w v i j):Nat):Int))]) (fun r=>[(10,.box 56 [.d (iD 0),.d (.raw (.slice none 0 0))]),(1000,frBx t g 1001 L0),(1001,cxBx g w NB 1002),(1002,.mp (ZbD N))]) (fun r=>r0 - r) 0 (Hh _) ?_;intro r hr;have hlt:r < g.Aa.length:=by omega
  by_cases hl:g.Aa[r].left=(v:Int)
  ·have h1:=hru r;rw[hrN r hlt hl hr] at h1;have hy:=hFy r hlt hl;have hu0:=hFu0 r hr;by_cases he:r=r0
   ·subst he;have ea:k - Al r (fR g N w v i j)=a:=(by omega);rw[ea];generalize wcn N w g.Aa[r].right i j=c at *;have hac:(a:Int) < (c:Int):=(by omega);refine VA ?_;refine Zau [(1000,1001),(1001,1002)] (hA:=h1) (hr:=?_);refine VA ?_;refine Zab [(1000,1000),(1001,1001),(1002,1002)] (hA:=hk0) (hr:=?_);refine VA ?_;exact fin
   ·have hr2:r < r0:=(by omega);have hu:=hFu r hr2;have ea:((k - Al r (fR g N w v i j):Nat):Int) - (wcn N w g.Aa[r].right i j:Nat)=((k - Al (r+1) (fR g N w v i j):Nat):Int):=(by omega);have hac:¬ ((k - Al r (fR g N w v i j):Nat):Int) < (wcn N w g.Aa[r].right i j:Nat):=(by omega);have hb:((k - Al r (fR g N w v i j):Nat):Int) < Q:=(by omega);have hb2:((k - Al (r+1) (fR g N w v i j):Nat):Int) < Q:=(by omega);generalize k - Al r (fR g N w v i j)=c1 at *;generalize hc2:k - Al (r+1) (fR g N w v i j)=c2 at *;generalize wcn N w g.Aa[r].right i j=c at *;refine VA ?_;refine Zau [(1000,1001),(1001,1002)] (hA:=h1) (hr:=?_);refine VA ?_;rw[ea];subst hc2;exact Zad (r+1)
  ·have hr2:r < r0:=HN fun hn=>hl (by have q:r=r0:=(by omega);subst q;exact e2)
   rw[←hFn r hlt hl];refine VA ?_;exact Zad (r+1)
end
section
variable {t:Bool} {g:Ac} {w:List Int}
theorem ZBN {N:Cube} {r a i m j:Nat} (hr:r < g.Aa.length) (ha:a < g.Aa[r].right.length) (h1:i≤m) (h2:m≤j) (h3:j≤w.length):spC g w Zae N r a i m j=min Zae (symN N w g.Aa[r].right[a] i m * wcn N w (g.Aa[r].right.drop (a+1)) m j):=by
 unfold spC;rw[Zax hr,Hb (by omega)];simp only[Hn];rw[Hf,Hj ha];rfl
theorem ZBO {N:Cube} {v i j:Nat} (hv:((v:Nat):Int) < g.vars) (h1:i≤j) (h2:j≤w.length):ofC g w N v i j=N v i j:=by
 unfold ofC;rw[Hb (by omega)];simp only[Hn]
theorem Znq {N:Cube} {T:Nat→Nat→Nat→Nat→Nat→Option (Tree×Nat)} {j:Nat}:∀ (r:List Int) (i k L:Nat) (l:List Tree) (L2:Nat),rowF N w T j r i k L=some (l,L2)→l.length≤r.length
 | [],i,k,L,l,L2,h=>by rw[rowF] at h;cases h;exact Hg _
 | s::r,i,k,L,l,L2,h=>by
  rw[rowF] at h;cases hp:ZkT (fM N w s r i j) (j+1 - i) i k with
  | none=>rw[hp] at h;cases h
  | some x =>
   obtain⟨m,a⟩:=x;rw[hp] at h;dsimp only at h;split at h
   ·have:=Znq r _ _ _ _ _ h;simp only[Hl];omega
   ·split at h
    ·cases h
    ·split at h
     ·cases h
     ·rename_i hr;cases h;have:=Znq r _ _ _ _ _ hr;simp only[Hl];omega
def ZEM (H:Nat→Hp) (f:FuncId) (args:List V) (L:Nat):Option (D×Nat)→Prop
 | some (v,L')=>Af Tryz.prog f args (H L) (.d v) (H L')
 | none=>APan Tryz.prog f args (H L) Ziq (H 0)
theorem Zv7 {f:FuncId} {args:List V} {L:Nat} {R:Option (D×Nat)}:Zux t g w f args L R=ZEM (fun L=>[(1000,frBx t g 1001 L),(1001,cxBx g w (nulB g) 1002),(1002,.mp (ZbD (Ak g w Zae)))]) f args L R:=by
 cases R <;> rfl
theorem Zv8 (hC:ChOk g w) {d:Nat} (hd:d≤1000) (hT:∀ v i m k L,((v:Nat):Int) < g.vars→i≤m→m≤w.length→L≤d→k < Ak g w Zae v i m→Ak g w Zae v i m < Zae→Zux t g w 80 [.ptr 1000 0,I (v:Nat),I (i:Nat),I (m:Nat),I (k:Nat)] L (Zuy g w d v i m k L))
  (hTL:∀ v i m k L x,Zdi g (Ak g w Zae) w d v i m k L=some x→L≤d→x.2≤d) :
  ∀ (n r at_ i j k L:Nat),∀ h:r < g.Aa.length,g.Aa[r].right.length - at_ < n→at_≤g.Aa[r].right.length→i≤j→j≤w.length→L≤d→k < wcn (Ak g w Zae) w (g.Aa[r].right.drop at_) i j→wcn (Ak g w Zae) w (g.Aa[r].right.drop at_) i j < Zae →
   Zux t g w 154 [.ptr 1000 0,I (r:Nat),I (at_:Nat),I (i:Nat),I (j:Nat),I (k:Nat)] L (ZzI g w d j (g.Aa[r].right.drop at_) i k L):=by
 intro n
 induction n with
 | zero=>intro r at_ i j k L h hn;omega
 | succ n ih =>
 intro r at_ i j k L hr hn hat hij hj hL hk hM;obtain⟨s1,s2⟩:=hC.small;have hg:=hC.ok;have hlen:=hC.len;have hsp:=fun (a i m:Nat)=>ZuK hg hC.cyc s1 s2 (r:Int) (a:Int) (i:Int) (m:Int) (j:Int)
 have hof:=fun (v i m:Nat)=>ZwG hg hC.cyc s1 s2 (v:Int) (i:Int) (m:Int)
 have hkM:k < Zae:=by omega
 obtain⟨Q,hQ⟩:∃ Q:Int,Q=4611686018427387904:=⟨_,rfl⟩
 have hkM:((k:Nat):Int) < Q:=by unfold Zae at hkM;omega
 have hrl:=hg.Aa;have hrr:=hg.right _ (He hr);have hhi:=hg.hi _ (He hr);unfold ZzI at ih ⊢;unfold Zuy at hT;rw[Zv7];simp only[Zv7] at ih hT;cases hrow:rowF (Ak g w Zae) w (Zdi g (Ak g w Zae) w d) j (g.Aa[r].right.drop at_) i k L with
 | none =>
  show APan _ _ _ _ _ _;dsimp only [frH,frBx] at hsp hof ⊢;generalize Ak g w Zae=N at *;generalize nulB g=NB at *;refine APan.intro (n:=107) Tryz.func154 rfl rfl (by simp) (by rfl) rfl ?_;simp only[Zal];refine VA ?_;refine Zak (X:=Nat×Nat) (fun x=>at_≤x.1∧x.1≤g.Aa[r].right.length∧x.2≤j∧k < wcn N w (g.Aa[r].right.drop x.1) x.2 j∧wcn N w (g.Aa[r].right.drop x.1) x.2 j < Zae∧rowF N w (Zdi g N w d) j (g.Aa[r].right.drop x.1) x.2 k L=none) (fun x=>[(12,.d (.raw (.slice none 0 0))),(13,.d (ints t g.Aa[r].right)),(0,.ptr 1000 0),(1,I r),(4,I j),(2,I x.1),(3,I x.2),(5,I k)]) (fun x=>[(1000,frBx t g 1001 L),(1001,cxBx g w NB 1002),(1002,.mp (ZbD N))]) (fun x=>g.Aa[r].right.length - x.1) (at_,i) ⟨Hg _,hat,hij,hk,hM,hrow⟩ ?_;rintro⟨a,i1⟩ ⟨g1,g2,g3,g4,g5,g6⟩;dsimp only at g1 g2 g3 g4 g5 g6 ⊢;by_cases hal:a < g.Aa[r].right.length
  rotate_left
  ·obtain rfl:a=g.Aa[r].right.length:=by omega
   rw[HL (Hg _),rowF] at g6;cases g6
  ·rw[Hw hal] at g4 g5 g6;by_cases hneg:g.Aa[r].right[a] < 0
   ·obtain⟨q1,q2,q3,q4,q5⟩:=ZkU (T:=Zdi g N w d) (L:=L) hneg g4;rw[q1] at g6;rw[q5] at g5;refine VA ?_;exact Zad (a+1,i1+1) (a:=⟨by omega,by omega,q3,q2,g5,g6⟩)
   ·obtain⟨sn,hsn⟩:∃ sn:Nat,g.Aa[r].right[a]=(sn:Int):=⟨g.Aa[r].right[a].toNat,by omega⟩
    have hsv:((sn:Nat):Int) < g.vars:=(by rw[←hsn];exact hhi _ (He hal));rw[hsn] at g4 g5 g6;obtain⟨m0,a0,e,h1,h2,h3,h4,h5,h6,h7,h8⟩:=Zn1 g4 g3;rw[h8] at g6;have hspm:∀ m,i1≤m→m≤m0→spC g w Zae N r a i1 m j=N sn i1 m * wcn N w (g.Aa[r].right.drop (a+1)) m j:=fun m m1 m2=>by
     rw[ZBN hr hal m1 (by omega) hj,hsn,ZdT];have:=ZxG (N:=N) (w:=w) (s:=(sn:Int)) (r:=g.Aa[r].right.drop (a+1)) m1 (show m≤j by omega);rw[ZdT] at this;omega
    have hF1:∀ m,i1≤m→Al (m+1) (fM N w sn (g.Aa[r].right.drop (a+1)) i1 j)=Al m (fM N w sn (g.Aa[r].right.drop (a+1)) i1 j)+N sn i1 m * wcn N w (g.Aa[r].right.drop (a+1)) m j:=fun m m1=>by
     show Al m _+fM N w sn (g.Aa[r].right.drop (a+1)) i1 j m=_;unfold fM;rw[Hb m1,ZdT]
    have hFu:∀ m,m≤m0→Al m (fM N w sn (g.Aa[r].right.drop (a+1)) i1 j)+a0≤k:=fun m m1=>by
     have:=ZnZ (F:=fM N w sn (g.Aa[r].right.drop (a+1)) i1 j) m1;omega
    have hF0:Al i1 (fM N w sn (g.Aa[r].right.drop (a+1)) i1 j)=0:=Zti (Hg _);refine VA ?_;refine Zak (X:=Nat) (fun m=>i1≤m∧m≤m0) (fun m=>[(12,.d (.raw (.slice none 0 0))),(13,.d (ints t g.Aa[r].right)),(0,.ptr 1000 0),(1,I r),(4,I j),(2,I a),(3,I i1),(5,I ((k - Al m (fM N w sn (g.Aa[r].right.drop (a+1)) i1 j):Nat):Int)),(14,I m)]) (fun _=>[(1000,frBx t g 1001 L),(1001,cxBx g w NB 1002),(1002,.mp (ZbD N))]) (fun m=>m0 - m) i1 ⟨Hg _,h1⟩ ?_ (hf:=⟨.of rfl,.of rfl,.of rfl,.of rfl,.of rfl,.of rfl,.of rfl,VLe.of (by rw[hF0];rfl),.of rfl,trivial⟩);rintro m ⟨m1,m2⟩;have hs1:=hsp a i1 m;rw[hspm m m1 m2] at hs1;have hmj:m≤j:=(by omega);by_cases hm:m < m0
    ·have hu:=hFu (m+1) hm;have hu1:=hF1 m m1;have ea:((k - Al m (fM N w sn (g.Aa[r].right.drop (a+1)) i1 j):Nat):Int) - (N sn i1 m * wcn N w (g.Aa[r].right.drop (a+1)) m j:Nat)=((k - Al (m+1) (fM N w sn (g.Aa[r].right.drop (a+1)) i1 j):Nat):Int):=(by omega);have hac:((N sn i1 m * wcn N w (g.Aa[r].right.drop (a+1)) m j:Nat):Int)≤((k - Al m (fM N w sn (g.Aa[r].right.drop (a+1)) i1 j):Nat):Int):=(by omega);have hb:((k - Al m (fM N w sn (g.Aa[r].right.drop (a+1)) i1 j):Nat):Int) < Q:=(by omega);clear hspm hF1 hFu hF0 hu hu1 g6 h7 h8 e;generalize N sn i1 m * wcn N w (g.Aa[r].right.drop (a+1)) m j=c at *;generalize k - Al m (fM N w sn (g.Aa[r].right.drop (a+1)) i1 j)=c1 at *;generalize hc2:k - Al (m+1) (fM N w sn (g.Aa[r].right.drop (a+1)) i1 j)=c2 at *;refine VA ?_;refine Zau [(1000,1001),(1001,1002)] (hA:=hs1) (hr:=?_);refine VA ?_;rw[ea];subst hc2;exact Zad (m+1)
    ·obtain rfl:m=m0:=(by omega);have ho:=hof sn i1 m;rw[ZBO hsv m1 (by omega)] at ho;have ht:=hT sn i1 m (a0 / wcn N w (g.Aa[r].right.drop (a+1)) m j) L hsv m1 (by omega) hL h3 (by omega);have hq0:0 < wcn N w (g.Aa[r].right.drop (a+1)) m j:=Nat.lt_of_le_of_lt (Hh _) h4;have hn0:0 < N sn i1 m:=Nat.lt_of_le_of_lt (Hh _) h3;have hqq:((N sn i1 m * wcn N w (g.Aa[r].right.drop (a+1)) m j:Nat):Int) / (N sn i1 m:Nat)=(wcn N w (g.Aa[r].right.drop (a+1)) m j:Nat):=by
      rw[←JH,Nat.mul_div_cancel_left _ hn0]
     have ha1:(a0:Int) / (wcn N w (g.Aa[r].right.drop (a+1)) m j:Nat)=(a0 / wcn N w (g.Aa[r].right.drop (a+1)) m j:Nat):=(JH _ _).symm;have ha2:(a0:Int) % (wcn N w (g.Aa[r].right.drop (a+1)) m j:Nat)=(a0 % wcn N w (g.Aa[r].right.drop (a+1)) m j:Nat):=(Int.natCast_emod _ _).symm;have hea:k - Al m (fM N w sn (g.Aa[r].right.drop (a+1)) i1 j)=a0:=(by omega);have hac:¬ (((N sn i1 m * wcn N w (g.Aa[r].right.drop (a+1)) m j:Nat):Int)≤(a0:Int)):=by
      have:=Nat.div_add_mod a0 (wcn N w (g.Aa[r].right.drop (a+1)) m j);have h9:wcn N w (g.Aa[r].right.drop (a+1)) m j * (a0 / wcn N w (g.Aa[r].right.drop (a+1)) m j+1)≤wcn N w (g.Aa[r].right.drop (a+1)) m j * N sn i1 m:=Ji _ h3;rw[Jj,Nat.mul_comm _ (N sn i1 m)] at h9;omega
     have hcQ:((N sn i1 m * wcn N w (g.Aa[r].right.drop (a+1)) m j:Nat):Int) < Q:=by
      have:=hspm m m1 (Hg _);have h9:=ZxG (N:=N) (w:=w) (s:=(sn:Int)) (r:=g.Aa[r].right.drop (a+1)) m1 (show m≤j by omega);rw[ZdT] at h9;have h10:N sn i1 m * wcn N w (g.Aa[r].right.drop (a+1)) m j < Zae:=(by omega);unfold Zae at h10;omega
     have hqb:((wcn N w (g.Aa[r].right.drop (a+1)) m j:Nat):Int) < Q:=by
      have h10:wcn N w (g.Aa[r].right.drop (a+1)) m j < Zae:=(by omega);unfold Zae at h10;omega
     have hnb:((N sn i1 m:Nat):Int) < Q:=by
      have h10:N sn i1 m < Zae:=(by omega);unfold Zae at h10;omega
     have hab:(a0:Int) < Q:=(by omega);rw[hea];cases hc:Zdi g N w d sn i1 m (a0 / wcn N w (g.Aa[r].right.drop (a+1)) m j) L with
     | none =>
     rw[hc] at ht;replace ht:APan Tryz.prog 80 [.ptr 1000 0,I (sn:Nat),I (i1:Nat),I (m:Nat),I ((a0 / wcn N w (g.Aa[r].right.drop (a+1)) m j:Nat):Int)] [(1000,frBx t g 1001 L),(1001,cxBx g w NB 1002),(1002,.mp (ZbD N))] Ziq [(1000,frBx t g 1001 0),(1001,cxBx g w NB 1002),(1002,.mp (ZbD N))]:=ht;clear hspm hF1 hFu hF0 h7 h8 e hc hea g4 g5 hM hk h3 h4 h5 h6;generalize N sn i1 m * wcn N w (g.Aa[r].right.drop (a+1)) m j=c at *;generalize a0 / wcn N w (g.Aa[r].right.drop (a+1)) m j=a1 at *;generalize a0 % wcn N w (g.Aa[r].right.drop (a+1)) m j=a2 at *;generalize wcn N w (g.Aa[r].right.drop (a+1)) m j=q at *;generalize N sn i1 m=n0 at *;refine VA ?_;refine Zau [(1000,1001),(1001,1002)] (hA:=hs1) (hr:=?_);refine VA ?_;rw[hsn];refine Zau [(1000,1001),(1001,1002)] (hA:=ho) (hr:=?_);refine VA ?_;rw[hsn,hqq,ha1];refine ZvQ [(1000,1000),(1001,1001),(1002,1002)] [] [] (hpn:=by exact (fun fr' h' _ _=>⟨rfl,⟨Ap.of rfl,Ap.of rfl,Ap.of rfl,trivial⟩,rfl⟩)) (hA:=ht) (hr:=?_);refine wk1 ?_;refine ZEF 93 rfl ?_;refine Zgf ?_;exact ZqK (Nev.slot 93 rfl)
     | some x =>
     obtain⟨x,L1⟩:=x;rw[hc] at g6 ht;replace ht:Af Tryz.prog 80 [.ptr 1000 0,I (sn:Nat),I (i1:Nat),I (m:Nat),I ((a0 / wcn N w (g.Aa[r].right.drop (a+1)) m j:Nat):Int)] [(1000,frBx t g 1001 L),(1001,cxBx g w NB 1002),(1002,.mp (ZbD N))] (.d (Zbz false x)) [(1000,frBx t g 1001 L1),(1001,cxBx g w NB 1002),(1002,.mp (ZbD N))]:=ht;have hL1:L1≤d:=hTL sn i1 m _ L _ hc hL;have hi:=ih r (a+1) m j (a0 % wcn N w (g.Aa[r].right.drop (a+1)) m j) L1 hr (by omega) (by omega) h2 hj hL1 h4 (by omega);dsimp only at g6;cases hdd:rowF N w (Zdi g N w d) j (g.Aa[r].right.drop (a+1)) m (a0 % wcn N w (g.Aa[r].right.drop (a+1)) m j) L1 with
     | some y=>rw[hdd] at g6;cases g6
     | none =>
     rw[hdd] at hi;replace hi:APan Tryz.prog 154 [.ptr 1000 0,I (r:Nat),I ((a+1:Nat):Int),I (m:Nat),I (j:Nat),I ((a0 % wcn N w (g.Aa[r].right.drop (a+1)) m j:Nat):Int)] [(1000,frBx t g 1001 L1),(1001,cxBx g w NB 1002),(1002,.mp (ZbD N))] Ziq [(1000,frBx t g 1001 0),(1001,cxBx g w NB 1002),(1002,.mp (ZbD N))]:=hi;rw[show ((a+1:Nat):Int)=(a:Int)+1 by omega] at hi;clear hspm hF1 hFu hF0 h7 h8 e hc hdd hea g4 g5 hM hk h3 h4 h5 h6;generalize N sn i1 m * wcn N w (g.Aa[r].right.drop (a+1)) m j=c at *;generalize a0 / wcn N w (g.Aa[r].right.drop (a+1)) m j=a1 at *;generalize a0 % wcn N w (g.Aa[r].right.drop (a+1)) m j=a2 at *;generalize wcn N w (g.Aa[r].right.drop (a+1)) m j=q at *;generalize N sn i1 m=n0 at *;refine VA ?_;refine Zau [(1000,1001),(1001,1002)] (hA:=hs1) (hr:=?_);refine VA ?_;rw[hsn];refine Zau [(1000,1001),(1001,1002)] (hA:=ho) (hr:=?_);refine VA ?_;rw[hsn,hqq,ha1];refine Zab [(1000,1000),(1001,1001),(1002,1002)] (hA:=ht) (hr:=?_);refine VA ?_;rw[ha2];refine Zet [(1000,1000),(1001,1001),(1002,1002)] [] [] (hpn:=by exact (fun fr' h' _ _=>⟨rfl,⟨Ap.of rfl,Ap.of rfl,Ap.of rfl,trivial⟩,rfl⟩)) (hA:=hi)
 | some y =>
  obtain⟨l,L2⟩:=y;show Af _ _ _ _ _ _;dsimp only [frH,frBx] at hsp hof ⊢;generalize Ak g w Zae=N at *;generalize nulB g=NB at *;refine Af.intro (n:=107) Tryz.func154 (hw:=?_);simp only[Zal];refine VA ?_;refine Zak (X:=Nat×Nat) (fun x=>at_≤x.1∧x.1≤g.Aa[r].right.length∧x.2≤j∧k < wcn N w (g.Aa[r].right.drop x.1) x.2 j∧wcn N w (g.Aa[r].right.drop x.1) x.2 j < Zae∧rowF N w (Zdi g N w d) j (g.Aa[r].right.drop x.1) x.2 k L=some (l,L2)) (fun x=>[(12,.d (.raw (.slice none 0 0))),(13,.d (ints t g.Aa[r].right)),(0,.ptr 1000 0),(1,I r),(4,I j),(2,I x.1),(3,I x.2),(5,I k)]) (fun x=>[(1000,frBx t g 1001 L),(1001,cxBx g w NB 1002),(1002,.mp (ZbD N))]) (fun x=>g.Aa[r].right.length - x.1) (at_,i) ⟨Hg _,hat,hij,hk,hM,hrow⟩ ?_;rintro⟨a,i1⟩ ⟨g1,g2,g3,g4,g5,g6⟩;dsimp only at g1 g2 g3 g4 g5 g6 ⊢;by_cases hal:a < g.Aa[r].right.length
  rotate_left
  ·obtain rfl:a=g.Aa[r].right.length:=by omega
   rw[HL (Hg _),rowF] at g6;cases g6;refine VA ?_;refine VB ?_;refine VA ?_;exact fin
  ·rw[Hw hal] at g4 g5 g6;by_cases hneg:g.Aa[r].right[a] < 0
   ·obtain⟨q1,q2,q3,q4,q5⟩:=ZkU (T:=Zdi g N w d) (L:=L) hneg g4;rw[q1] at g6;rw[q5] at g5;refine VA ?_;exact Zad (a+1,i1+1) (a:=⟨by omega,by omega,q3,q2,g5,g6⟩)
   ·obtain⟨sn,hsn⟩:∃ sn:Nat,g.Aa[r].right[a]=(sn:Int):=⟨g.Aa[r].right[a].toNat,by omega⟩
    have hsv:((sn:Nat):Int) < g.vars:=(by rw[←hsn];exact hhi _ (He hal));rw[hsn] at g4 g5 g6;obtain⟨m0,a0,e,h1,h2,h3,h4,h5,h6,h7,h8⟩:=Zn1 g4 g3;rw[h8] at g6;have hspm:∀ m,i1≤m→m≤m0→spC g w Zae N r a i1 m j=N sn i1 m * wcn N w (g.Aa[r].right.drop (a+1)) m j:=fun m m1 m2=>by
     rw[ZBN hr hal m1 (by omega) hj,hsn,ZdT];have:=ZxG (N:=N) (w:=w) (s:=(sn:Int)) (r:=g.Aa[r].right.drop (a+1)) m1 (show m≤j by omega);rw[ZdT] at this;omega
    have hF1:∀ m,i1≤m→Al (m+1) (fM N w sn (g.Aa[r].right.drop (a+1)) i1 j)=Al m (fM N w sn (g.Aa[r].right.drop (a+1)) i1 j)+N sn i1 m * wcn N w (g.Aa[r].right.drop (a+1)) m j:=fun m m1=>by
     show Al m _+fM N w sn (g.Aa[r].right.drop (a+1)) i1 j m=_;unfold fM;rw[Hb m1,ZdT]
    have hFu:∀ m,m≤m0→Al m (fM N w sn (g.Aa[r].right.drop (a+1)) i1 j)+a0≤k:=fun m m1=>by
     have:=ZnZ (F:=fM N w sn (g.Aa[r].right.drop (a+1)) i1 j) m1;omega
    have hF0:Al i1 (fM N w sn (g.Aa[r].right.drop (a+1)) i1 j)=0:=Zti (Hg _);refine VA ?_;refine Zak (X:=Nat) (fun m=>i1≤m∧m≤m0) (fun m=>[(12,.d (.raw (.slice none 0 0))),(13,.d (ints t g.Aa[r].right)),(0,.ptr 1000 0),(1,I r),(4,I j),(2,I a),(3,I i1),(5,I ((k - Al m (fM N w sn (g.Aa[r].right.drop (a+1)) i1 j):Nat):Int)),(14,I m)]) (fun _=>[(1000,frBx t g 1001 L),(1001,cxBx g w NB 1002),(1002,.mp (ZbD N))]) (fun m=>m0 - m) i1 ⟨Hg _,h1⟩ ?_ (hf:=⟨.of rfl,.of rfl,.of rfl,.of rfl,.of rfl,.of rfl,.of rfl,VLe.of (by rw[hF0];rfl),.of rfl,trivial⟩);rintro m ⟨m1,m2⟩;have hs1:=hsp a i1 m;rw[hspm m m1 m2] at hs1;have hmj:m≤j:=(by omega);by_cases hm:m < m0
    ·have hu:=hFu (m+1) hm;have hu1:=hF1 m m1;have ea:((k - Al m (fM N w sn (g.Aa[r].right.drop (a+1)) i1 j):Nat):Int) - (N sn i1 m * wcn N w (g.Aa[r].right.drop (a+1)) m j:Nat)=((k - Al (m+1) (fM N w sn (g.Aa[r].right.drop (a+1)) i1 j):Nat):Int):=(by omega);have hac:((N sn i1 m * wcn N w (g.Aa[r].right.drop (a+1)) m j:Nat):Int)≤((k - Al m (fM N w sn (g.Aa[r].right.drop (a+1)) i1 j):Nat):Int):=(by omega);have hb:((k - Al m (fM N w sn (g.Aa[r].right.drop (a+1)) i1 j):Nat):Int) < Q:=(by omega);clear hspm hF1 hFu hF0 hu hu1 g6 h7 h8 e;generalize N sn i1 m * wcn N w (g.Aa[r].right.drop (a+1)) m j=c at *;generalize k - Al m (fM N w sn (g.Aa[r].right.drop (a+1)) i1 j)=c1 at *;generalize hc2:k - Al (m+1) (fM N w sn (g.Aa[r].right.drop (a+1)) i1 j)=c2 at *;refine VA ?_;refine Zau [(1000,1001),(1001,1002)] (hA:=hs1) (hr:=?_);refine VA ?_;rw[ea];subst hc2;exact Zad (m+1)
    ·obtain rfl:m=m0:=(by omega);have ho:=hof sn i1 m;rw[ZBO hsv m1 (by omega)] at ho;have ht:=hT sn i1 m (a0 / wcn N w (g.Aa[r].right.drop (a+1)) m j) L hsv m1 (by omega) hL h3 (by omega);have hq0:0 < wcn N w (g.Aa[r].right.drop (a+1)) m j:=Nat.lt_of_le_of_lt (Hh _) h4;have hn0:0 < N sn i1 m:=Nat.lt_of_le_of_lt (Hh _) h3;have hqq:((N sn i1 m * wcn N w (g.Aa[r].right.drop (a+1)) m j:Nat):Int) / (N sn i1 m:Nat)=(wcn N w (g.Aa[r].right.drop (a+1)) m j:Nat):=by
      rw[←JH,Nat.mul_div_cancel_left _ hn0]
     have ha1:(a0:Int) / (wcn N w (g.Aa[r].right.drop (a+1)) m j:Nat)=(a0 / wcn N w (g.Aa[r].right.drop (a+1)) m j:Nat):=(JH _ _).symm;have ha2:(a0:Int) % (wcn N w (g.Aa[r].right.drop (a+1)) m j:Nat)=(a0 % wcn N w (g.Aa[r].right.drop (a+1)) m j:Nat):=(Int.natCast_emod _ _).symm;have hea:k - Al m (fM N w sn (g.Aa[r].right.drop (a+1)) i1 j)=a0:=(by omega);have hac:¬ (((N sn i1 m * wcn N w (g.Aa[r].right.drop (a+1)) m j:Nat):Int)≤(a0:Int)):=by
      have:=Nat.div_add_mod a0 (wcn N w (g.Aa[r].right.drop (a+1)) m j);have h9:wcn N w (g.Aa[r].right.drop (a+1)) m j * (a0 / wcn N w (g.Aa[r].right.drop (a+1)) m j+1)≤wcn N w (g.Aa[r].right.drop (a+1)) m j * N sn i1 m:=Ji _ h3;rw[Jj,Nat.mul_comm _ (N sn i1 m)] at h9;omega
     have hcQ:((N sn i1 m * wcn N w (g.Aa[r].right.drop (a+1)) m j:Nat):Int) < Q:=by
      have:=hspm m m1 (Hg _);have h9:=ZxG (N:=N) (w:=w) (s:=(sn:Int)) (r:=g.Aa[r].right.drop (a+1)) m1 (show m≤j by omega);rw[ZdT] at h9;have h10:N sn i1 m * wcn N w (g.Aa[r].right.drop (a+1)) m j < Zae:=(by omega);unfold Zae at h10;omega
     have hqb:((wcn N w (g.Aa[r].right.drop (a+1)) m j:Nat):Int) < Q:=by
      have h10:wcn N w (g.Aa[r].right.drop (a+1)) m j < Zae:=(by omega);unfold Zae at h10;omega
     have hnb:((N sn i1 m:Nat):Int) < Q:=by
      have h10:N sn i1 m < Zae:=(by omega);unfold Zae at h10;omega
     have hab:(a0:Int) < Q:=(by omega);rw[hea];cases hc:Zdi g N w d sn i1 m (a0 / wcn N w (g.Aa[r].right.drop (a+1)) m j) L with
     | none=>rw[hc] at g6;cases g6
     | some x =>
     obtain⟨x,L1⟩:=x;rw[hc] at g6 ht;replace ht:Af Tryz.prog 80 [.ptr 1000 0,I (sn:Nat),I (i1:Nat),I (m:Nat),I ((a0 / wcn N w (g.Aa[r].right.drop (a+1)) m j:Nat):Int)] [(1000,frBx t g 1001 L),(1001,cxBx g w NB 1002),(1002,.mp (ZbD N))] (.d (Zbz false x)) [(1000,frBx t g 1001 L1),(1001,cxBx g w NB 1002),(1002,.mp (ZbD N))]:=ht;have hL1:L1≤d:=hTL sn i1 m _ L _ hc hL;have hi:=ih r (a+1) m j (a0 % wcn N w (g.Aa[r].right.drop (a+1)) m j) L1 hr (by omega) (by omega) h2 hj hL1 h4 (by omega);dsimp only at g6;cases hdd:rowF N w (Zdi g N w d) j (g.Aa[r].right.drop (a+1)) m (a0 % wcn N w (g.Aa[r].right.drop (a+1)) m j) L1 with
     | none=>rw[hdd] at g6;cases g6
     | some y =>
     obtain⟨l',L2'⟩:=y;rw[hdd] at g6 hi;cases g6;replace hi:Af Tryz.prog 154 [.ptr 1000 0,I (r:Nat),I ((a+1:Nat):Int),I (m:Nat),I (j:Nat),I ((a0 % wcn N w (g.Aa[r].right.drop (a+1)) m j:Nat):Int)] [(1000,frBx t g 1001 L1),(1001,cxBx g w NB 1002),(1002,.mp (ZbD N))] (.d (Zan false l')) [(1000,frBx t g 1001 L2),(1001,cxBx g w NB 1002),(1002,.mp (ZbD N))]:=hi;rw[show ((a+1:Nat):Int)=(a:Int)+1 by omega] at hi;have hll:=Znq _ _ _ _ _ _ hdd;rw[HG] at hll;replace hll:l'.length≤10:=(by omega);clear hspm hF1 hFu hF0 h7 h8 e hc hdd hea g4 g5 hM hk h3 h4 h5 h6;generalize N sn i1 m * wcn N w (g.Aa[r].right.drop (a+1)) m j=c at *;generalize a0 / wcn N w (g.Aa[r].right.drop (a+1)) m j=a1 at *;generalize a0 % wcn N w (g.Aa[r].right.drop (a+1)) m j=a2 at *;generalize wcn N w (g.Aa[r].right.drop (a+1)) m j=q at *;generalize N sn i1 m=n0 at *;refine VA ?_;refine Zau [(1000,1001),(1001,1002)] (hA:=hs1) (hr:=?_);refine VA ?_;rw[hsn];refine Zau [(1000,1001),(1001,1002)] (hA:=ho) (hr:=?_);refine VA ?_;rw[hsn,hqq,ha1];refine Zab [(1000,1000),(1001,1001),(1002,1002)] (hA:=ht) (hr:=?_);refine VA ?_;rw[ha2];refine Zab [(1000,1000),(1001,1001),(1002,1002)] (hA:=hi) (hr:=?_);have el:[D.agg [iD x.rule,Zan false x.Ab]]++List.map (ZaV false) l'=List.map (ZaV false) (x::l'):=by
      rw[Hm,Zdy];rfl
     repeat (first|refine Zaz 95 rfl ?_|refine wk1 ?_)
     rw[el];exact fin
end
section
variable {t:Bool} {g:Ac} {w:List Int}
theorem Zv9 {g:Ac} {N:Cube} {w:List Int}:∀ (d v i j k L:Nat) (x:Tree×Nat),Zdi g N w d v i j k L=some x→x.2≤L
 | 0,_,_,_,_,_,_,h=>by cases h
 | d+1,v,i,j,k,L,x,h=>by
  have row:∀ (r:List Int) (i k L:Nat) (l:List Tree) (L2:Nat),rowF N w (Zdi g N w d) j r i k L=some (l,L2)→L2≤L:=by
   intro r
   induction r with
   | nil=>intro i k L l L2 h;rw[rowF] at h;cases h;exact Hg _
   | cons s r ih =>
    intro i k L l L2 h;rw[rowF] at h;split at h
    ·cases h
    ·split at h
     ·exact ih _ _ _ _ _ h
     ·split at h
      ·cases h
      ·rename_i h1;split at h
       ·cases h
       ·rename_i h2;cases h;have:=ih _ _ _ _ _ h2;have:=Zv9 d _ _ _ _ _ _ h1;dsimp only at this;omega
  rw[Zdi] at h;split at h
  ·cases h
  ·split at h
   ·cases h
   ·split at h
    ·cases h
    ·rename_i hr;cases h;have:=row _ _ _ _ _ _ hr;dsimp only;omega
theorem Zo9 (hC:ChOk g w):∀ d,d≤1000→∀ v i j k L,((v:Nat):Int) < g.vars→i≤j→j≤w.length→L≤d→k < Ak g w Zae v i j→Ak g w Zae v i j < Zae→Zux t g w 80 [.ptr 1000 0,I (v:Nat),I (i:Nat),I (j:Nat),I (k:Nat)] L (Zuy g w d v i j k L)
 | 0,_,v,i,j,k,L,hv,hij,hj,hL,hk,hM=>by
  obtain rfl:L=0:=by omega
  exact Zmb
 | d+1,hd,v,i,j,k,L,hv,hij,hj,hL,hk,hM=>by
  have ih:=Zo9 hC d (by omega);exact Zuz hC (fun r i j k L h h1 h2 h3 h4 h5=>Zv8 hC (by omega) ih (fun v i m k L x e hL=>Hq (Zv9 d v i m k L x e) hL) (g.Aa[r].right.length+1) r 0 i j k L h (by omega) (Hh _) h1 h2 h3 h4 h5) hv hij hj hL (by omega) hk hM
def cntF (g:Ac) (w:List Int):Nat:=Ak g w Zae g.start.toNat 0 w.length
theorem Zhs (hg:g.ok):ofC g w (Ak g w Zae) g.start 0 w.length=cntF g w:=by
 have:=hg.start;have:=hg.start0;unfold ofC cntF;rw[Hb (by omega)];simp only[Hn,Int.toNat_zero]
def opF (g:Ac) (w:List Int):Zcf:=if (chF g w).code=0 then (if cntF g w=Zae then ⟨6, -1⟩ else ⟨0,0⟩) else chF g w
abbrev frH0 (t:Bool) (g:Ac) (w:List Int) (k0 k1 k2 L:Nat):Hp:=[(k0,frBx t g k1 L),(k1,cxBx g w (nulB g) k2),(k2,.mp (ZbD (Ak g w Zae)))]
theorem ZuA {u:Bool} (hf:g.fit) (hw:w.length≤100000000) (h:¬ (opF g w).code=0):Af Tryz.prog 44 [.d (Zbr t g),.d (ints u w)] [] (.tup [.d (.raw (.pointer none)),.d (Zbu (opF g w))]) []:=by
 by_cases hc:(chF g w).code=0
 ·obtain⟨hC,hz⟩:=ZsS hc;obtain⟨s1,s2⟩:=hC.small;have hm:cntF g w=Zae:=HN fun q=>h (by unfold opF;rw[Hb hc,Ha q])
  rw[show opF g w=⟨6, -1⟩ by unfold opF;rw[Hb hc,Hb hm]];have hnew:=ZsT (t:=t) (u:=u) hC;have hct:=ZeY hC.ok hC.cyc s1 s2;rw[Zhs hC.ok,hm] at hct;generalize Ak g w Zae=N at *;generalize nulB g=NB at *;refine Af.intro (n:=27) Tryz.func44 (hw:=?_);simp only[Zal];refine VA ?_;refine Zab [(62,962),(60,960)] (hA:=hnew) (hr:=?_);refine VA ?_;refine Zau [(1000,962),(1001,960)] (hA:=hct) (hr:=?_);refine VA ?_;exact fin
 ·rw[show opF g w=chF g w by unfold opF;rw[Ha hc]];have hnn:=ZzZ (t:=t) (u:=u) hf hw hc;generalize chF g w=cf at *;obtain⟨cc,ca⟩:=cf;dsimp only at hc;refine Af.intro (n:=27) Tryz.func44 (hw:=?_);simp only[Zal];refine VA ?_;refine Zab [] (hA:=hnn) (hr:=?_);refine VA ?_;exact fin
end
end Go.Proofs.YtbpmepgnjanhnaaGreat
