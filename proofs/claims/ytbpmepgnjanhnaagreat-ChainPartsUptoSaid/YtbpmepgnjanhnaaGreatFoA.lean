import Derived.Test.YtbpmepgnjanhnaaGreatQRank
import Derived.Test.YtbpmepgnjanhnaaGreatQChartJ
import Derived.Test.YtbpmepgnjanhnaaGreatQS6
set_option linter.unusedVariables false
set_option linter.unusedSimpArgs false
set_option linter.unusedSectionVars false
namespace Go.Proofs.YtbpmepgnjanhnaaGreat
open Go.RowKit
set_option maxRecDepth 100000
section
variable {P:Program} {n:Nat} {dr:Bool} {ops:Array Oper} {rest:List Oper} {log:List Rec} {K:Exit→Fr→Hp→Prop} {fr:Fr} {h:Hp}
variable {d:Nat} {ty:TypeId} {pos:String} {after:Array Edge} {g:Option (Nat×Bool)}
theorem ZuA (T:TT P) {t:TypeId} {y:Ty} (hdn:Nat.blt d n=true) (hg:gOk ops fr g) (ht:T.rows[t]? = some y) (hz:y.zero=some (.agg #[])) (hu:P.underlying t=some (.struct #[]))
  (hr:dops P n dr ops rest (⟨(gIns ops g++Zan [] []).map Prod.fst,[d],[],[]⟩::log) K ((d,.agg [])::fr) h):dops P n dr ops (⟨some d,.build t #[],ty,pos,after,g⟩::rest) log K fr h:=by
 refine Zaw (ins:=gIns ops g++Zan [] []) (objs:=[]) (v:=.agg []) (upd:=[]) (LStep.pure rfl hdn rfl hg _ _ _ fun G E fr' h' a w C hi _=>?_) (Zcv hg (Zbn ZcP)) (by simp) hr
 obtain⟨i,ds,k1,k2,_,_,_,k6,_,_,k9⟩:=ZaA (T.at ht)
 refine⟨.agg #[],?_,by simp only[V.Rep];exact⟨[],rfl,by simp[V.Reps],by simp⟩,fun j hj=>by simp[V.keys,V.keyss] at hj⟩
 have hzz:(zeroValue t).run P w=.ok (.agg #[]) w:=by
  unfold zeroValue typeInfo
  simp[k1,k6,hz]
 have hfin:(Instr.build t ((#[]:Array (Nat×Operand)).map fun p=>(p.1,a.eval p.2))).run P w=.ok (.agg #[]) w:=by
  unfold Instr.build
  simp[hzz,run_underlying hu,Instr.fill,Value.cells]
 simp only[execOp,Sem.run_bind,hfin,Result.andThen_ok,Sem.run_pure]
end
abbrev frBx (t:Bool) (g:Gram) (k:Nat) (L:Nat):Ob:=.box 80 [.ptr k 0,.d (iD g.vars),.d (iD g.terms),.d (iD g.start),.d (ZaL t g.rules),I L]
abbrev frH (t:Bool) (g:Gram) (w:List Int) (L:Nat):Hp:=[(1000,frBx t g 1001 L),(1001,cxBx g w (nulB g) 1002),(1002,.mp (Zbj (wcns g w Zag)))]
def Zgm:Value:=.iface 104 (.agg #[])
def Zqh (t:Bool) (g:Gram) (w:List Int) (f:FuncId) (args:List V) (L:Nat):Option (D×Nat)→Prop
 | some (v,L')=>ACalls Tryz.prog f args (frH t g w L) (.d v) (frH t g w L')
 | none=>APan Tryz.prog f args (frH t g w L) Zgm (frH t g w 0)
section
variable {t:Bool} {g:Gram} {w:List Int}
abbrev Zqi (g:Gram) (w:List Int) (d v i j k L:Nat):Option (D×Nat):=(ZcD g (wcns g w Zag) w d v i j k L).map fun x=>(Zbf false x.1,x.2)
abbrev ZuB (g:Gram) (w:List Int) (d j:Nat) (r:List Int) (i k L:Nat):Option (D×Nat):=(rowF (wcns g w Zag) w (ZcD g (wcns g w Zag) w d) j r i k L).map fun x=>(Zap false x.1,x.2)
theorem Zjl {v i j k:Int}:APan Tryz.prog 80 [.ptr 1000 0,I v,I i,I j,I k] (frH t g w 0) Zgm (frH t g w 0):=by
 dsimp only [frH]
 generalize wcns g w Zag=N at *
 generalize nulB g=NB at *
 refine APan.intro (n:=67) Tryz.func80 rfl rfl (by simp) (by rfl) rfl ?_
 simp only[Zal]
 refine VA ?_
 refine ZuA TY rfl Zaf rfl rfl Tryz.underlying104 ?_
 refine VA ?_
 refine ZnY rfl Zaf rfl rfl rfl Tryz.underlying104 rfl ?_
 refine ZnZ [(1000,some (frBx t g 1001 0)),(1001,some (cxBx g w NB 1002)),(1002,some (.mp (Zbj N)))] 999 Zaf rfl (fun p hp=>by rcases List.mem_cons.1 hp with rfl|hp;exact rfl;rcases List.mem_cons.1 hp with rfl|hp;exact rfl;rw[List.mem_singleton.1 hp];rfl) (fun fr' h' ho=>⟨rfl,⟨HElt.of (ho _ List.mem_cons_self),HElt.of (ho _ (List.mem_cons_of_mem _ List.mem_cons_self)),HElt.of (ho _ (List.mem_cons_of_mem _ (List.mem_cons_of_mem _ (List.mem_singleton.2 rfl)))),trivial⟩,rfl⟩) ?_
 refine Zb7 (Zby ?_)
 exact Zms (Nev.obj 999 rfl)
set_option maxHeartbeats 4000000 in
theorem Zqj (hC:ChOk g w) {d:Nat} (hK:∀ r i j k L,∀ h:r < g.rules.length,i≤j→j≤w.length→L≤d→k < wcn (wcns g w Zag) w g.rules[r].right i j→wcn (wcns g w Zag) w g.rules[r].right i j < Zag→Zqh t g w 154 [.ptr 1000 0,I (r:Nat),I 0,I (i:Nat),I (j:Nat),I (k:Nat)] L (ZuB g w d j g.rules[r].right i k L))
  {v i j k L:Nat} (hv:((v:Nat):Int) < g.vars) (hij:i≤j) (hj:j≤w.length) (hL:L≤d+1) (hd:d≤1000) (hk:k < wcns g w Zag v i j) (hM:wcns g w Zag v i j < Zag) :
  Zqh t g w 80 [.ptr 1000 0,I (v:Nat),I (i:Nat),I (j:Nat),I (k:Nat)] L (Zqi g w (d+1) v i j k L):=by
 obtain⟨s1,s2⟩:=hC.small
 have hg:=hC.ok
 have hlen:=hC.len
 unfold Zqi
 rw[ZcD]
 by_cases hz:L=0
 ·subst hz
  rw[if_pos rfl]
  exact Zjl
 rw[if_neg hz]
 obtain⟨r0,a,hr0,e1,e2,e3,e4,e5⟩:=Zmr (Zii g w Zag) hv hij hj hk hM
 rw[e1]
 dsimp only
 rw[ZgH hr0]
 have hk0:=hK r0 i j a (L - 1) hr0 hij hj (by omega) e3 (by omega)
 unfold ZuB at hk0
 have hru:=fun (r:Nat)=>ZrO hg hC.cyc s1 s2 (r:Int) (i:Int) (j:Int)
 obtain⟨L0,rfl⟩:∃ L0,L=L0+1:=⟨L - 1,by omega⟩
 rw[Nat.add_sub_cancel] at hk0 ⊢
 have hkM:k < Zag:=by omega
 obtain⟨Q,hQ⟩:∃ Q:Int,Q=4611686018427387904:=⟨_,rfl⟩
 have hkM:((k:Nat):Int) < Q:=by unfold Zag at hkM;omega
 have hrl:=hg.rules
 have hL1:((L0+1:Nat):Int) - 1=(L0:Int):=by omega
 have hLz:1≤((L0+1:Nat):Int):=by omega
 have hLm:((L0+1:Nat):Int)≤100000:=by omega
 have hrN:∀ r,∀ h:r < g.rules.length,g.rules[r].left=(v:Int)→r≤r0→ruC g w Zag (wcns g w Zag) r i j=wcn (wcns g w Zag) w g.rules[r].right i j:=fun r h e hle=>by
  unfold ruC
  rw[if_pos (by omega),ZaW h]
  simp only[Int.toNat_natCast]
  have q1:=Zwu (N:=wcns g w Zag) (w:=w) (v:=v) (i:=i) (j:=j) h e
  have q2:=ZnC (f:=fR g (wcns g w Zag) w v i j) (n:=g.rules.length) (k:=r) h
  have q3:=Zii g w Zag v i j hv hij hj
  omega
 have hFn:∀ r,∀ h:r < g.rules.length,¬ g.rules[r].left=(v:Int)→sumN (r+1) (fR g (wcns g w Zag) w v i j)=sumN r (fR g (wcns g w Zag) w v i j):=fun r h e=>by
  show sumN r _+fR g _ w v i j r=_
  rw[ZyV h e];rfl
 have hFy:∀ r,∀ h:r < g.rules.length,g.rules[r].left=(v:Int)→sumN (r+1) (fR g (wcns g w Zag) w v i j)=sumN r (fR g (wcns g w Zag) w v i j)+wcn (wcns g w Zag) w g.rules[r].right i j:=fun r h e=>by
  show sumN r _+fR g _ w v i j r=_
  rw[Zwu h e]
 have hFu:∀ r,r < r0→sumN (r+1) (fR g (wcns g w Zag) w v i j)≤k:=fun r h=>by
  have:=ZkT (F:=fR g (wcns g w Zag) w v i j) (m:=r+1) (n:=r0) h
  omega
 have hFu0:∀ r,r≤r0→sumN r (fR g (wcns g w Zag) w v i j)≤k:=fun r h=>by
  have:=ZkT (F:=fR g (wcns g w Zag) w v i j) (m:=r) (n:=r0) h
  omega
 cases hrow:rowF (wcns g w Zag) w (ZcD g (wcns g w Zag) w d) j g.rules[r0].right i a L0 with
 | none =>
  rw[hrow] at hk0
  replace hk0:APan Tryz.prog 154 [.ptr 1000 0,I (r0:Nat),I 0,I (i:Nat),I (j:Nat),I (a:Nat)] (frH t g w L0) Zgm (frH t g w 0):=hk0
  show APan _ _ _ _ _ _
  clear hrow
  dsimp only [frH,frBx] at hk0 ⊢
  generalize wcns g w Zag=N at *
  generalize nulB g=NB at *
  generalize ((L0+1:Nat):Int)=Lz at *
  refine APan.intro (n:=67) Tryz.func80 rfl rfl (by simp) (by rfl) rfl ?_
  simp only[Zal]
  refine VA ?_
  rw[hL1]
  refine Zak (X:=Nat) (fun r=>r≤r0) (fun r=>[(34,I r),(33,I g.rules.length),(32,.d (ZaL t g.rules)),(10,.ptr 10 0),(0,.ptr 1000 0),(1,I v),(2,I i),(3,I j),(4,I ((k - sumN r (fR g N w v i j):Nat):Int))]) (fun r=>[(10,.box 56 [.d (iD 0),.d (.raw (.slice none 0 0))]),(1000,frBx t g 1001 L0),(1001,cxBx g w NB 1002),(1002,.mp (Zbj N))]) (fun r=>r0 - r) 0 (Nat.zero_le _) ?_
  intro r hr
  have hlt:r < g.rules.length:=by omega
  by_cases hl:g.rules[r].left=(v:Int)
  ·have h1:=hru r
   rw[hrN r hlt hl hr] at h1
   have hy:=hFy r hlt hl
   have hu0:=hFu0 r hr
   by_cases he:r=r0
   ·subst he
    have ea:k - sumN r (fR g N w v i j)=a:=by omega
    rw[ea]
    generalize wcn N w g.rules[r].right i j=c at *
    have hac:(a:Int) < (c:Int):=by omega
    refine VA ?_
    refine Zau [(1000,1001),(1001,1002)] (hA:=h1) (hr:=?_)
    refine VA ?_
    refine Zdb [(1000,1000),(1001,1001),(1002,1002)] [] [] (hpn:=by exact (fun fr' h' _ _=>⟨rfl,⟨HElt.of rfl,HElt.of rfl,HElt.of rfl,trivial⟩,rfl⟩)) (hA:=hk0)
   ·have hr2:r < r0:=by omega
    have hu:=hFu r hr2
    have ea:((k - sumN r (fR g N w v i j):Nat):Int) - (wcn N w g.rules[r].right i j:Nat)=((k - sumN (r+1) (fR g N w v i j):Nat):Int):=by omega
    have hac:¬ ((k - sumN r (fR g N w v i j):Nat):Int) < (wcn N w g.rules[r].right i j:Nat):=by omega
    have hb:((k - sumN r (fR g N w v i j):Nat):Int) < Q:=by omega
    have hb2:((k - sumN (r+1) (fR g N w v i j):Nat):Int) < Q:=by omega
    generalize k - sumN r (fR g N w v i j)=c1 at *
    generalize hc2:k - sumN (r+1) (fR g N w v i j)=c2 at *
    generalize wcn N w g.rules[r].right i j=c at *
    refine VA ?_
    refine Zau [(1000,1001),(1001,1002)] (hA:=h1) (hr:=?_)
    refine VA ?_
    rw[ea]
    subst hc2
    exact Zae (r+1)
  ·have hr2:r < r0:=Classical.byContradiction fun hn=>hl (by have q:r=r0:=(by omega);subst q;exact e2)
   rw[←hFn r hlt hl]
   refine VA ?_
   exact Zae (r+1)
 | some y =>
  rw[hrow] at hk0
  obtain⟨l,L2⟩:=y
  replace hk0:ACalls Tryz.prog 154 [.ptr 1000 0,I (r0:Nat),I 0,I (i:Nat),I (j:Nat),I (a:Nat)] (frH t g w L0) (.d (Zap false l)) (frH t g w L2):=hk0
  show ACalls _ _ _ _ _ _
  clear hrow
  dsimp only [frH,frBx] at hk0 ⊢
  generalize wcns g w Zag=N at *
  generalize nulB g=NB at *
  generalize ((L0+1:Nat):Int)=Lz at *
  refine ACalls.intro (n:=67) Tryz.func80 rfl rfl (by simp) (by rfl) ?_
  simp only[Zal]
  refine VA ?_
  rw[hL1]
  refine Zak (X:=Nat) (fun r=>r≤r0) (fun r=>[(34,I r),(33,I g.rules.length),(32,.d (ZaL t g.rules)),(10,.ptr 10 0),(0,.ptr 1000 0),(1,I v),(2,I i),(3,I j),(4,I ((k - sumN r (fR g N w v i j):Nat):Int))]) (fun r=>[(10,.box 56 [.d (iD 0),.d (.raw (.slice none 0 0))]),(1000,frBx t g 1001 L0),(1001,cxBx g w NB 1002),(1002,.mp (Zbj N))]) (fun r=>r0 - r) 0 (Nat.zero_le _) ?_
  intro r hr
  have hlt:r < g.rules.length:=by omega
  by_cases hl:g.rules[r].left=(v:Int)
  ·have h1:=hru r
   rw[hrN r hlt hl hr] at h1
   have hy:=hFy r hlt hl
   have hu0:=hFu0 r hr
   by_cases he:r=r0
   ·subst he
    have ea:k - sumN r (fR g N w v i j)=a:=by omega
    rw[ea]
    generalize wcn N w g.rules[r].right i j=c at *
    have hac:(a:Int) < (c:Int):=by omega
    refine VA ?_
    refine Zau [(1000,1001),(1001,1002)] (hA:=h1) (hr:=?_)
    refine VA ?_
    refine Zab [(1000,1000),(1001,1001),(1002,1002)] (hA:=hk0) (hr:=?_)
    refine VA ?_
    exact fin
   ·have hr2:r < r0:=by omega
    have hu:=hFu r hr2
    have ea:((k - sumN r (fR g N w v i j):Nat):Int) - (wcn N w g.rules[r].right i j:Nat)=((k - sumN (r+1) (fR g N w v i j):Nat):Int):=by omega
    have hac:¬ ((k - sumN r (fR g N w v i j):Nat):Int) < (wcn N w g.rules[r].right i j:Nat):=by omega
    have hb:((k - sumN r (fR g N w v i j):Nat):Int) < Q:=by omega
    have hb2:((k - sumN (r+1) (fR g N w v i j):Nat):Int) < Q:=by omega
    generalize k - sumN r (fR g N w v i j)=c1 at *
    generalize hc2:k - sumN (r+1) (fR g N w v i j)=c2 at *
    generalize wcn N w g.rules[r].right i j=c at *
    refine VA ?_
    refine Zau [(1000,1001),(1001,1002)] (hA:=h1) (hr:=?_)
    refine VA ?_
    rw[ea]
    subst hc2
    exact Zae (r+1)
  ·have hr2:r < r0:=Classical.byContradiction fun hn=>hl (by have q:r=r0:=(by omega);subst q;exact e2)
   rw[←hFn r hlt hl]
   refine VA ?_
   exact Zae (r+1)
end
set_option maxRecDepth 100000
section
variable {t:Bool} {g:Gram} {w:List Int}
theorem Zwh {N:Cube} {r a i m j:Nat} (hr:r < g.rules.length) (ha:a < g.rules[r].right.length) (h1:i≤m) (h2:m≤j) (h3:j≤w.length):spC g w Zag N r a i m j=min Zag (symN N w g.rules[r].right[a] i m * wcn N w (g.rules[r].right.drop (a+1)) m j):=by
 unfold spC
 rw[ZaW hr,if_pos (by omega)]
 simp only[Int.toNat_natCast]
 rw[List.getD_eq_getElem?_getD,List.getElem?_eq_getElem ha];rfl
theorem Zwi {N:Cube} {v i j:Nat} (hv:((v:Nat):Int) < g.vars) (h1:i≤j) (h2:j≤w.length):ofC g w N v i j=N v i j:=by
 unfold ofC;rw[if_pos (by omega)];simp only[Int.toNat_natCast]
theorem Zkl {N:Cube} {T:Nat→Nat→Nat→Nat→Nat→Option (Tree×Nat)} {j:Nat}:∀ (r:List Int) (i k L:Nat) (l:List Tree) (L2:Nat),rowF N w T j r i k L=some (l,L2)→l.length≤r.length
 | [],i,k,L,l,L2,h=>by rw[rowF] at h;cases h;exact Nat.le_refl _
 | s::r,i,k,L,l,L2,h=>by
  rw[rowF] at h
  cases hp:Zig (fM N w s r i j) (j+1 - i) i k with
  | none=>rw[hp] at h;cases h
  | some x =>
   obtain⟨m,a⟩:=x
   rw[hp] at h
   dsimp only at h
   split at h
   ·have:=Zkl r _ _ _ _ _ h
    simp only[List.length_cons];omega
   ·split at h
    ·cases h
    ·split at h
     ·cases h
     ·rename_i hr
      cases h
      have:=Zkl r _ _ _ _ _ hr
      simp only[List.length_cons];omega
def ZyL (H:Nat→Hp) (f:FuncId) (args:List V) (L:Nat):Option (D×Nat)→Prop
 | some (v,L')=>ACalls Tryz.prog f args (H L) (.d v) (H L')
 | none=>APan Tryz.prog f args (H L) Zgm (H 0)
theorem ZrA {f:FuncId} {args:List V} {L:Nat} {R:Option (D×Nat)}:Zqh t g w f args L R=ZyL (fun L=>[(1000,frBx t g 1001 L),(1001,cxBx g w (nulB g) 1002),(1002,.mp (Zbj (wcns g w Zag)))]) f args L R:=by
 cases R <;> rfl
set_option maxHeartbeats 4000000 in
theorem ZrB (hC:ChOk g w) {d:Nat} (hd:d≤1000) (hT:∀ v i m k L,((v:Nat):Int) < g.vars→i≤m→m≤w.length→L≤d→k < wcns g w Zag v i m→wcns g w Zag v i m < Zag→Zqh t g w 80 [.ptr 1000 0,I (v:Nat),I (i:Nat),I (m:Nat),I (k:Nat)] L (Zqi g w d v i m k L))
  (hTL:∀ v i m k L x,ZcD g (wcns g w Zag) w d v i m k L=some x→L≤d→x.2≤d) :
  ∀ (n r at_ i j k L:Nat),∀ h:r < g.rules.length,g.rules[r].right.length - at_ < n→at_≤g.rules[r].right.length→i≤j→j≤w.length→L≤d→k < wcn (wcns g w Zag) w (g.rules[r].right.drop at_) i j→wcn (wcns g w Zag) w (g.rules[r].right.drop at_) i j < Zag →
   Zqh t g w 154 [.ptr 1000 0,I (r:Nat),I (at_:Nat),I (i:Nat),I (j:Nat),I (k:Nat)] L (ZuB g w d j (g.rules[r].right.drop at_) i k L):=by
 intro n
 induction n with
 | zero=>intro r at_ i j k L h hn;omega
 | succ n ih =>
 intro r at_ i j k L hr hn hat hij hj hL hk hM
 obtain⟨s1,s2⟩:=hC.small
 have hg:=hC.ok
 have hlen:=hC.len
 have hsp:=fun (a i m:Nat)=>Zqq hg hC.cyc s1 s2 (r:Int) (a:Int) (i:Int) (m:Int) (j:Int)
 have hof:=fun (v i m:Nat)=>ZrN hg hC.cyc s1 s2 (v:Int) (i:Int) (m:Int)
 have hkM:k < Zag:=by omega
 obtain⟨Q,hQ⟩:∃ Q:Int,Q=4611686018427387904:=⟨_,rfl⟩
 have hkM:((k:Nat):Int) < Q:=by unfold Zag at hkM;omega
 have hrl:=hg.rules
 have hrr:=hg.right _ (List.getElem_mem hr)
 have hhi:=hg.hi _ (List.getElem_mem hr)
 unfold ZuB at ih ⊢
 unfold Zqi at hT
 rw[ZrA]
 simp only[ZrA] at ih hT
 cases hrow:rowF (wcns g w Zag) w (ZcD g (wcns g w Zag) w d) j (g.rules[r].right.drop at_) i k L with
 | none =>
  show APan _ _ _ _ _ _
  dsimp only [frH,frBx] at hsp hof ⊢
  generalize wcns g w Zag=N at *
  generalize nulB g=NB at *
  refine APan.intro (n:=107) Tryz.func154 rfl rfl (by simp) (by rfl) rfl ?_
  simp only[Zal]
  refine VA ?_
  refine Zak (X:=Nat×Nat) (fun x=>at_≤x.1∧x.1≤g.rules[r].right.length∧x.2≤j∧k < wcn N w (g.rules[r].right.drop x.1) x.2 j∧wcn N w (g.rules[r].right.drop x.1) x.2 j < Zag∧rowF N w (ZcD g N w d) j (g.rules[r].right.drop x.1) x.2 k L=none) (fun x=>[(12,.d (.raw (.slice none 0 0))),(13,.d (ints t g.rules[r].right)),(0,.ptr 1000 0),(1,I r),(4,I j),(2,I x.1),(3,I x.2),(5,I k)]) (fun x=>[(1000,frBx t g 1001 L),(1001,cxBx g w NB 1002),(1002,.mp (Zbj N))]) (fun x=>g.rules[r].right.length - x.1) (at_,i) ⟨Nat.le_refl _,hat,hij,hk,hM,hrow⟩ ?_
  rintro⟨a,i1⟩ ⟨g1,g2,g3,g4,g5,g6⟩
  dsimp only at g1 g2 g3 g4 g5 g6 ⊢
  by_cases hal:a < g.rules[r].right.length
  rotate_left
  ·obtain rfl:a=g.rules[r].right.length:=by omega
   rw[List.drop_of_length_le (Nat.le_refl _),rowF] at g6
   cases g6
  ·rw[List.drop_eq_getElem_cons hal] at g4 g5 g6
   by_cases hneg:g.rules[r].right[a] < 0
   ·obtain⟨q1,q2,q3,q4,q5⟩:=Zih (T:=ZcD g N w d) (L:=L) hneg g4
    rw[q1] at g6
    rw[q5] at g5
    refine VA ?_
    exact Zae (a+1,i1+1) (a:=⟨by omega,by omega,q3,q2,g5,g6⟩)
   ·obtain⟨sn,hsn⟩:∃ sn:Nat,g.rules[r].right[a]=(sn:Int):=⟨g.rules[r].right[a].toNat,by omega⟩
    have hsv:((sn:Nat):Int) < g.vars:=by rw[←hsn];exact hhi _ (List.getElem_mem hal)
    rw[hsn] at g4 g5 g6
    obtain⟨m0,a0,e,h1,h2,h3,h4,h5,h6,h7,h8⟩:=ZkV g4 g3
    rw[h8] at g6
    have hspm:∀ m,i1≤m→m≤m0→spC g w Zag N r a i1 m j=N sn i1 m * wcn N w (g.rules[r].right.drop (a+1)) m j:=fun m m1 m2=>by
     rw[Zwh hr hal m1 (by omega) hj,hsn,Zc1]
     have:=ZsW (N:=N) (w:=w) (s:=(sn:Int)) (r:=g.rules[r].right.drop (a+1)) m1 (show m≤j by omega)
     rw[Zc1] at this
     omega
    have hF1:∀ m,i1≤m→sumN (m+1) (fM N w sn (g.rules[r].right.drop (a+1)) i1 j)=sumN m (fM N w sn (g.rules[r].right.drop (a+1)) i1 j)+N sn i1 m * wcn N w (g.rules[r].right.drop (a+1)) m j:=fun m m1=>by
     show sumN m _+fM N w sn (g.rules[r].right.drop (a+1)) i1 j m=_
     unfold fM;rw[if_pos m1,Zc1]
    have hFu:∀ m,m≤m0→sumN m (fM N w sn (g.rules[r].right.drop (a+1)) i1 j)+a0≤k:=fun m m1=>by
     have:=ZkT (F:=fM N w sn (g.rules[r].right.drop (a+1)) i1 j) m1
     omega
    have hF0:sumN i1 (fM N w sn (g.rules[r].right.drop (a+1)) i1 j)=0:=Zpv (Nat.le_refl _)
    refine VA ?_
    refine Zak (X:=Nat) (fun m=>i1≤m∧m≤m0) (fun m=>[(12,.d (.raw (.slice none 0 0))),(13,.d (ints t g.rules[r].right)),(0,.ptr 1000 0),(1,I r),(4,I j),(2,I a),(3,I i1),(5,I ((k - sumN m (fM N w sn (g.rules[r].right.drop (a+1)) i1 j):Nat):Int)),(14,I m)]) (fun _=>[(1000,frBx t g 1001 L),(1001,cxBx g w NB 1002),(1002,.mp (Zbj N))]) (fun m=>m0 - m) i1 ⟨Nat.le_refl _,h1⟩ ?_ (hf:=⟨.of rfl,.of rfl,.of rfl,.of rfl,.of rfl,.of rfl,.of rfl,VLe.of (by rw[hF0];rfl),.of rfl,trivial⟩)
    rintro m ⟨m1,m2⟩
    have hs1:=hsp a i1 m
    rw[hspm m m1 m2] at hs1
    have hmj:m≤j:=by omega
    by_cases hm:m < m0
    ·have hu:=hFu (m+1) hm
     have hu1:=hF1 m m1
     have ea:((k - sumN m (fM N w sn (g.rules[r].right.drop (a+1)) i1 j):Nat):Int) - (N sn i1 m * wcn N w (g.rules[r].right.drop (a+1)) m j:Nat)=((k - sumN (m+1) (fM N w sn (g.rules[r].right.drop (a+1)) i1 j):Nat):Int):=by omega
     have hac:((N sn i1 m * wcn N w (g.rules[r].right.drop (a+1)) m j:Nat):Int)≤((k - sumN m (fM N w sn (g.rules[r].right.drop (a+1)) i1 j):Nat):Int):=by omega
     have hb:((k - sumN m (fM N w sn (g.rules[r].right.drop (a+1)) i1 j):Nat):Int) < Q:=by omega
     clear hspm hF1 hFu hF0 hu hu1 g6 h7 h8 e
     generalize N sn i1 m * wcn N w (g.rules[r].right.drop (a+1)) m j=c at *
     generalize k - sumN m (fM N w sn (g.rules[r].right.drop (a+1)) i1 j)=c1 at *
     generalize hc2:k - sumN (m+1) (fM N w sn (g.rules[r].right.drop (a+1)) i1 j)=c2 at *
     refine VA ?_
     refine Zau [(1000,1001),(1001,1002)] (hA:=hs1) (hr:=?_)
     refine VA ?_
     rw[ea]
     subst hc2
     exact Zae (m+1)
    ·obtain rfl:m=m0:=by omega
     have ho:=hof sn i1 m
     rw[Zwi hsv m1 (by omega)] at ho
     have ht:=hT sn i1 m (a0 / wcn N w (g.rules[r].right.drop (a+1)) m j) L hsv m1 (by omega) hL h3 (by omega)
     have hq0:0 < wcn N w (g.rules[r].right.drop (a+1)) m j:=Nat.lt_of_le_of_lt (Nat.zero_le _) h4
     have hn0:0 < N sn i1 m:=Nat.lt_of_le_of_lt (Nat.zero_le _) h3
     have hqq:((N sn i1 m * wcn N w (g.rules[r].right.drop (a+1)) m j:Nat):Int) / (N sn i1 m:Nat)=(wcn N w (g.rules[r].right.drop (a+1)) m j:Nat):=by
      rw[←Int.natCast_ediv,Nat.mul_div_cancel_left _ hn0]
     have ha1:(a0:Int) / (wcn N w (g.rules[r].right.drop (a+1)) m j:Nat)=(a0 / wcn N w (g.rules[r].right.drop (a+1)) m j:Nat):=(Int.natCast_ediv _ _).symm
     have ha2:(a0:Int) % (wcn N w (g.rules[r].right.drop (a+1)) m j:Nat)=(a0 % wcn N w (g.rules[r].right.drop (a+1)) m j:Nat):=(Int.natCast_emod _ _).symm
     have hea:k - sumN m (fM N w sn (g.rules[r].right.drop (a+1)) i1 j)=a0:=by omega
     have hac:¬ (((N sn i1 m * wcn N w (g.rules[r].right.drop (a+1)) m j:Nat):Int)≤(a0:Int)):=by
      have:=Nat.div_add_mod a0 (wcn N w (g.rules[r].right.drop (a+1)) m j)
      have h9:wcn N w (g.rules[r].right.drop (a+1)) m j * (a0 / wcn N w (g.rules[r].right.drop (a+1)) m j+1)≤wcn N w (g.rules[r].right.drop (a+1)) m j * N sn i1 m:=Nat.mul_le_mul_left _ h3
      rw[Nat.mul_add,Nat.mul_comm _ (N sn i1 m)] at h9
      omega
     have hcQ:((N sn i1 m * wcn N w (g.rules[r].right.drop (a+1)) m j:Nat):Int) < Q:=by
      have:=hspm m m1 (Nat.le_refl _)
      have h9:=ZsW (N:=N) (w:=w) (s:=(sn:Int)) (r:=g.rules[r].right.drop (a+1)) m1 (show m≤j by omega)
      rw[Zc1] at h9
      have h10:N sn i1 m * wcn N w (g.rules[r].right.drop (a+1)) m j < Zag:=by omega
      unfold Zag at h10;omega
     have hqb:((wcn N w (g.rules[r].right.drop (a+1)) m j:Nat):Int) < Q:=by
      have h10:wcn N w (g.rules[r].right.drop (a+1)) m j < Zag:=by omega
      unfold Zag at h10;omega
     have hnb:((N sn i1 m:Nat):Int) < Q:=by
      have h10:N sn i1 m < Zag:=by omega
      unfold Zag at h10;omega
     have hab:(a0:Int) < Q:=by omega
     rw[hea]
     cases hc:ZcD g N w d sn i1 m (a0 / wcn N w (g.rules[r].right.drop (a+1)) m j) L with
     | none =>
     rw[hc] at ht
     replace ht:APan Tryz.prog 80 [.ptr 1000 0,I (sn:Nat),I (i1:Nat),I (m:Nat),I ((a0 / wcn N w (g.rules[r].right.drop (a+1)) m j:Nat):Int)] [(1000,frBx t g 1001 L),(1001,cxBx g w NB 1002),(1002,.mp (Zbj N))] Zgm [(1000,frBx t g 1001 0),(1001,cxBx g w NB 1002),(1002,.mp (Zbj N))]:=ht
     clear hspm hF1 hFu hF0 h7 h8 e hc hea g4 g5 hM hk h3 h4 h5 h6
     generalize N sn i1 m * wcn N w (g.rules[r].right.drop (a+1)) m j=c at *
     generalize a0 / wcn N w (g.rules[r].right.drop (a+1)) m j=a1 at *
     generalize a0 % wcn N w (g.rules[r].right.drop (a+1)) m j=a2 at *
     generalize wcn N w (g.rules[r].right.drop (a+1)) m j=q at *
     generalize N sn i1 m=n0 at *
     refine VA ?_
     refine Zau [(1000,1001),(1001,1002)] (hA:=hs1) (hr:=?_)
     refine VA ?_
     rw[hsn]
     refine Zau [(1000,1001),(1001,1002)] (hA:=ho) (hr:=?_)
     refine VA ?_
     rw[hsn,hqq,ha1]
     refine ZqN [(1000,1000),(1001,1001),(1002,1002)] [] [] (hpn:=by exact (fun fr' h' _ _=>⟨rfl,⟨HElt.of rfl,HElt.of rfl,HElt.of rfl,trivial⟩,rfl⟩)) (hA:=ht) (hr:=?_)
     refine wk1 ?_
     refine Zyj 93 rfl ?_
     refine ZeF ?_
     exact Zms (Nev.slot 93 rfl)
     | some x =>
     obtain⟨x,L1⟩:=x
     rw[hc] at g6 ht
     replace ht:ACalls Tryz.prog 80 [.ptr 1000 0,I (sn:Nat),I (i1:Nat),I (m:Nat),I ((a0 / wcn N w (g.rules[r].right.drop (a+1)) m j:Nat):Int)] [(1000,frBx t g 1001 L),(1001,cxBx g w NB 1002),(1002,.mp (Zbj N))] (.d (Zbf false x)) [(1000,frBx t g 1001 L1),(1001,cxBx g w NB 1002),(1002,.mp (Zbj N))]:=ht
     have hL1:L1≤d:=hTL sn i1 m _ L _ hc hL
     have hi:=ih r (a+1) m j (a0 % wcn N w (g.rules[r].right.drop (a+1)) m j) L1 hr (by omega) (by omega) h2 hj hL1 h4 (by omega)
     dsimp only at g6
     cases hdd:rowF N w (ZcD g N w d) j (g.rules[r].right.drop (a+1)) m (a0 % wcn N w (g.rules[r].right.drop (a+1)) m j) L1 with
     | some y=>rw[hdd] at g6;cases g6
     | none =>
     rw[hdd] at hi
     replace hi:APan Tryz.prog 154 [.ptr 1000 0,I (r:Nat),I ((a+1:Nat):Int),I (m:Nat),I (j:Nat),I ((a0 % wcn N w (g.rules[r].right.drop (a+1)) m j:Nat):Int)] [(1000,frBx t g 1001 L1),(1001,cxBx g w NB 1002),(1002,.mp (Zbj N))] Zgm [(1000,frBx t g 1001 0),(1001,cxBx g w NB 1002),(1002,.mp (Zbj N))]:=hi
     rw[show ((a+1:Nat):Int)=(a:Int)+1 by omega] at hi
     clear hspm hF1 hFu hF0 h7 h8 e hc hdd hea g4 g5 hM hk h3 h4 h5 h6
     generalize N sn i1 m * wcn N w (g.rules[r].right.drop (a+1)) m j=c at *
     generalize a0 / wcn N w (g.rules[r].right.drop (a+1)) m j=a1 at *
     generalize a0 % wcn N w (g.rules[r].right.drop (a+1)) m j=a2 at *
     generalize wcn N w (g.rules[r].right.drop (a+1)) m j=q at *
     generalize N sn i1 m=n0 at *
     refine VA ?_
     refine Zau [(1000,1001),(1001,1002)] (hA:=hs1) (hr:=?_)
     refine VA ?_
     rw[hsn]
     refine Zau [(1000,1001),(1001,1002)] (hA:=ho) (hr:=?_)
     refine VA ?_
     rw[hsn,hqq,ha1]
     refine Zab [(1000,1000),(1001,1001),(1002,1002)] (hA:=ht) (hr:=?_)
     refine VA ?_
     rw[ha2]
     refine Zdb [(1000,1000),(1001,1001),(1002,1002)] [] [] (hpn:=by exact (fun fr' h' _ _=>⟨rfl,⟨HElt.of rfl,HElt.of rfl,HElt.of rfl,trivial⟩,rfl⟩)) (hA:=hi)
 | some y =>
  obtain⟨l,L2⟩:=y
  show ACalls _ _ _ _ _ _
  dsimp only [frH,frBx] at hsp hof ⊢
  generalize wcns g w Zag=N at *
  generalize nulB g=NB at *
  refine ACalls.intro (n:=107) Tryz.func154 rfl rfl (by simp) (by rfl) ?_
  simp only[Zal]
  refine VA ?_
  refine Zak (X:=Nat×Nat) (fun x=>at_≤x.1∧x.1≤g.rules[r].right.length∧x.2≤j∧k < wcn N w (g.rules[r].right.drop x.1) x.2 j∧wcn N w (g.rules[r].right.drop x.1) x.2 j < Zag∧rowF N w (ZcD g N w d) j (g.rules[r].right.drop x.1) x.2 k L=some (l,L2)) (fun x=>[(12,.d (.raw (.slice none 0 0))),(13,.d (ints t g.rules[r].right)),(0,.ptr 1000 0),(1,I r),(4,I j),(2,I x.1),(3,I x.2),(5,I k)]) (fun x=>[(1000,frBx t g 1001 L),(1001,cxBx g w NB 1002),(1002,.mp (Zbj N))]) (fun x=>g.rules[r].right.length - x.1) (at_,i) ⟨Nat.le_refl _,hat,hij,hk,hM,hrow⟩ ?_
  rintro⟨a,i1⟩ ⟨g1,g2,g3,g4,g5,g6⟩
  dsimp only at g1 g2 g3 g4 g5 g6 ⊢
  by_cases hal:a < g.rules[r].right.length
  rotate_left
  ·obtain rfl:a=g.rules[r].right.length:=by omega
   rw[List.drop_of_length_le (Nat.le_refl _),rowF] at g6
   cases g6
   (repeat (first|refine wk ?_|refine Zaa (hr:=?_)))
   (repeat (first|refine wkz ?_|refine Zaa (hr:=?_)))
   refine VA ?_
   exact fin
  ·rw[List.drop_eq_getElem_cons hal] at g4 g5 g6
   by_cases hneg:g.rules[r].right[a] < 0
   ·obtain⟨q1,q2,q3,q4,q5⟩:=Zih (T:=ZcD g N w d) (L:=L) hneg g4
    rw[q1] at g6
    rw[q5] at g5
    refine VA ?_
    exact Zae (a+1,i1+1) (a:=⟨by omega,by omega,q3,q2,g5,g6⟩)
   ·obtain⟨sn,hsn⟩:∃ sn:Nat,g.rules[r].right[a]=(sn:Int):=⟨g.rules[r].right[a].toNat,by omega⟩
    have hsv:((sn:Nat):Int) < g.vars:=by rw[←hsn];exact hhi _ (List.getElem_mem hal)
    rw[hsn] at g4 g5 g6
    obtain⟨m0,a0,e,h1,h2,h3,h4,h5,h6,h7,h8⟩:=ZkV g4 g3
    rw[h8] at g6
    have hspm:∀ m,i1≤m→m≤m0→spC g w Zag N r a i1 m j=N sn i1 m * wcn N w (g.rules[r].right.drop (a+1)) m j:=fun m m1 m2=>by
     rw[Zwh hr hal m1 (by omega) hj,hsn,Zc1]
     have:=ZsW (N:=N) (w:=w) (s:=(sn:Int)) (r:=g.rules[r].right.drop (a+1)) m1 (show m≤j by omega)
     rw[Zc1] at this
     omega
    have hF1:∀ m,i1≤m→sumN (m+1) (fM N w sn (g.rules[r].right.drop (a+1)) i1 j)=sumN m (fM N w sn (g.rules[r].right.drop (a+1)) i1 j)+N sn i1 m * wcn N w (g.rules[r].right.drop (a+1)) m j:=fun m m1=>by
     show sumN m _+fM N w sn (g.rules[r].right.drop (a+1)) i1 j m=_
     unfold fM;rw[if_pos m1,Zc1]
    have hFu:∀ m,m≤m0→sumN m (fM N w sn (g.rules[r].right.drop (a+1)) i1 j)+a0≤k:=fun m m1=>by
     have:=ZkT (F:=fM N w sn (g.rules[r].right.drop (a+1)) i1 j) m1
     omega
    have hF0:sumN i1 (fM N w sn (g.rules[r].right.drop (a+1)) i1 j)=0:=Zpv (Nat.le_refl _)
    refine VA ?_
    refine Zak (X:=Nat) (fun m=>i1≤m∧m≤m0) (fun m=>[(12,.d (.raw (.slice none 0 0))),(13,.d (ints t g.rules[r].right)),(0,.ptr 1000 0),(1,I r),(4,I j),(2,I a),(3,I i1),(5,I ((k - sumN m (fM N w sn (g.rules[r].right.drop (a+1)) i1 j):Nat):Int)),(14,I m)]) (fun _=>[(1000,frBx t g 1001 L),(1001,cxBx g w NB 1002),(1002,.mp (Zbj N))]) (fun m=>m0 - m) i1 ⟨Nat.le_refl _,h1⟩ ?_ (hf:=⟨.of rfl,.of rfl,.of rfl,.of rfl,.of rfl,.of rfl,.of rfl,VLe.of (by rw[hF0];rfl),.of rfl,trivial⟩)
    rintro m ⟨m1,m2⟩
    have hs1:=hsp a i1 m
    rw[hspm m m1 m2] at hs1
    have hmj:m≤j:=by omega
    by_cases hm:m < m0
    ·have hu:=hFu (m+1) hm
     have hu1:=hF1 m m1
     have ea:((k - sumN m (fM N w sn (g.rules[r].right.drop (a+1)) i1 j):Nat):Int) - (N sn i1 m * wcn N w (g.rules[r].right.drop (a+1)) m j:Nat)=((k - sumN (m+1) (fM N w sn (g.rules[r].right.drop (a+1)) i1 j):Nat):Int):=by omega
     have hac:((N sn i1 m * wcn N w (g.rules[r].right.drop (a+1)) m j:Nat):Int)≤((k - sumN m (fM N w sn (g.rules[r].right.drop (a+1)) i1 j):Nat):Int):=by omega
     have hb:((k - sumN m (fM N w sn (g.rules[r].right.drop (a+1)) i1 j):Nat):Int) < Q:=by omega
     clear hspm hF1 hFu hF0 hu hu1 g6 h7 h8 e
     generalize N sn i1 m * wcn N w (g.rules[r].right.drop (a+1)) m j=c at *
     generalize k - sumN m (fM N w sn (g.rules[r].right.drop (a+1)) i1 j)=c1 at *
     generalize hc2:k - sumN (m+1) (fM N w sn (g.rules[r].right.drop (a+1)) i1 j)=c2 at *
     refine VA ?_
     refine Zau [(1000,1001),(1001,1002)] (hA:=hs1) (hr:=?_)
     refine VA ?_
     rw[ea]
     subst hc2
     exact Zae (m+1)
    ·obtain rfl:m=m0:=by omega
     have ho:=hof sn i1 m
     rw[Zwi hsv m1 (by omega)] at ho
     have ht:=hT sn i1 m (a0 / wcn N w (g.rules[r].right.drop (a+1)) m j) L hsv m1 (by omega) hL h3 (by omega)
     have hq0:0 < wcn N w (g.rules[r].right.drop (a+1)) m j:=Nat.lt_of_le_of_lt (Nat.zero_le _) h4
     have hn0:0 < N sn i1 m:=Nat.lt_of_le_of_lt (Nat.zero_le _) h3
     have hqq:((N sn i1 m * wcn N w (g.rules[r].right.drop (a+1)) m j:Nat):Int) / (N sn i1 m:Nat)=(wcn N w (g.rules[r].right.drop (a+1)) m j:Nat):=by
      rw[←Int.natCast_ediv,Nat.mul_div_cancel_left _ hn0]
     have ha1:(a0:Int) / (wcn N w (g.rules[r].right.drop (a+1)) m j:Nat)=(a0 / wcn N w (g.rules[r].right.drop (a+1)) m j:Nat):=(Int.natCast_ediv _ _).symm
     have ha2:(a0:Int) % (wcn N w (g.rules[r].right.drop (a+1)) m j:Nat)=(a0 % wcn N w (g.rules[r].right.drop (a+1)) m j:Nat):=(Int.natCast_emod _ _).symm
     have hea:k - sumN m (fM N w sn (g.rules[r].right.drop (a+1)) i1 j)=a0:=by omega
     have hac:¬ (((N sn i1 m * wcn N w (g.rules[r].right.drop (a+1)) m j:Nat):Int)≤(a0:Int)):=by
      have:=Nat.div_add_mod a0 (wcn N w (g.rules[r].right.drop (a+1)) m j)
      have h9:wcn N w (g.rules[r].right.drop (a+1)) m j * (a0 / wcn N w (g.rules[r].right.drop (a+1)) m j+1)≤wcn N w (g.rules[r].right.drop (a+1)) m j * N sn i1 m:=Nat.mul_le_mul_left _ h3
      rw[Nat.mul_add,Nat.mul_comm _ (N sn i1 m)] at h9
      omega
     have hcQ:((N sn i1 m * wcn N w (g.rules[r].right.drop (a+1)) m j:Nat):Int) < Q:=by
      have:=hspm m m1 (Nat.le_refl _)
      have h9:=ZsW (N:=N) (w:=w) (s:=(sn:Int)) (r:=g.rules[r].right.drop (a+1)) m1 (show m≤j by omega)
      rw[Zc1] at h9
      have h10:N sn i1 m * wcn N w (g.rules[r].right.drop (a+1)) m j < Zag:=by omega
      unfold Zag at h10;omega
     have hqb:((wcn N w (g.rules[r].right.drop (a+1)) m j:Nat):Int) < Q:=by
      have h10:wcn N w (g.rules[r].right.drop (a+1)) m j < Zag:=by omega
      unfold Zag at h10;omega
     have hnb:((N sn i1 m:Nat):Int) < Q:=by
      have h10:N sn i1 m < Zag:=by omega
      unfold Zag at h10;omega
     have hab:(a0:Int) < Q:=by omega
     rw[hea]
     cases hc:ZcD g N w d sn i1 m (a0 / wcn N w (g.rules[r].right.drop (a+1)) m j) L with
     | none=>rw[hc] at g6;cases g6
     | some x =>
     obtain⟨x,L1⟩:=x
     rw[hc] at g6 ht
     replace ht:ACalls Tryz.prog 80 [.ptr 1000 0,I (sn:Nat),I (i1:Nat),I (m:Nat),I ((a0 / wcn N w (g.rules[r].right.drop (a+1)) m j:Nat):Int)] [(1000,frBx t g 1001 L),(1001,cxBx g w NB 1002),(1002,.mp (Zbj N))] (.d (Zbf false x)) [(1000,frBx t g 1001 L1),(1001,cxBx g w NB 1002),(1002,.mp (Zbj N))]:=ht
     have hL1:L1≤d:=hTL sn i1 m _ L _ hc hL
     have hi:=ih r (a+1) m j (a0 % wcn N w (g.rules[r].right.drop (a+1)) m j) L1 hr (by omega) (by omega) h2 hj hL1 h4 (by omega)
     dsimp only at g6
     cases hdd:rowF N w (ZcD g N w d) j (g.rules[r].right.drop (a+1)) m (a0 % wcn N w (g.rules[r].right.drop (a+1)) m j) L1 with
     | none=>rw[hdd] at g6;cases g6
     | some y =>
     obtain⟨l',L2'⟩:=y
     rw[hdd] at g6 hi
     cases g6
     replace hi:ACalls Tryz.prog 154 [.ptr 1000 0,I (r:Nat),I ((a+1:Nat):Int),I (m:Nat),I (j:Nat),I ((a0 % wcn N w (g.rules[r].right.drop (a+1)) m j:Nat):Int)] [(1000,frBx t g 1001 L1),(1001,cxBx g w NB 1002),(1002,.mp (Zbj N))] (.d (Zap false l')) [(1000,frBx t g 1001 L2),(1001,cxBx g w NB 1002),(1002,.mp (Zbj N))]:=hi
     rw[show ((a+1:Nat):Int)=(a:Int)+1 by omega] at hi
     have hll:=Zkl _ _ _ _ _ _ hdd
     rw[List.length_drop] at hll
     replace hll:l'.length≤10:=by omega
     clear hspm hF1 hFu hF0 h7 h8 e hc hdd hea g4 g5 hM hk h3 h4 h5 h6
     generalize N sn i1 m * wcn N w (g.rules[r].right.drop (a+1)) m j=c at *
     generalize a0 / wcn N w (g.rules[r].right.drop (a+1)) m j=a1 at *
     generalize a0 % wcn N w (g.rules[r].right.drop (a+1)) m j=a2 at *
     generalize wcn N w (g.rules[r].right.drop (a+1)) m j=q at *
     generalize N sn i1 m=n0 at *
     refine VA ?_
     refine Zau [(1000,1001),(1001,1002)] (hA:=hs1) (hr:=?_)
     refine VA ?_
     rw[hsn]
     refine Zau [(1000,1001),(1001,1002)] (hA:=ho) (hr:=?_)
     refine VA ?_
     rw[hsn,hqq,ha1]
     refine Zab [(1000,1000),(1001,1001),(1002,1002)] (hA:=ht) (hr:=?_)
     refine VA ?_
     rw[ha2]
     refine Zab [(1000,1000),(1001,1001),(1002,1002)] (hA:=hi) (hr:=?_)
     have el:[D.agg [iD x.rule,Zap false x.kids]]++List.map (ZaY false) l'=List.map (ZaY false) (x::l'):=by
      rw[List.map_cons,ZeR];rfl
     repeat (first|refine Zav 95 rfl ?_|refine wk1 ?_)
     rw[el]
     exact fin
end
set_option maxRecDepth 100000
section
variable {t:Bool} {g:Gram} {w:List Int}
theorem ZrC {g:Gram} {N:Cube} {w:List Int}:∀ (d v i j k L:Nat) (x:Tree×Nat),ZcD g N w d v i j k L=some x→x.2≤L
 | 0,_,_,_,_,_,_,h=>by cases h
 | d+1,v,i,j,k,L,x,h=>by
  have row:∀ (r:List Int) (i k L:Nat) (l:List Tree) (L2:Nat),rowF N w (ZcD g N w d) j r i k L=some (l,L2)→L2≤L:=by
   intro r
   induction r with
   | nil=>intro i k L l L2 h;rw[rowF] at h;cases h;exact Nat.le_refl _
   | cons s r ih =>
    intro i k L l L2 h
    rw[rowF] at h
    split at h
    ·cases h
    ·split at h
     ·exact ih _ _ _ _ _ h
     ·split at h
      ·cases h
      ·rename_i h1
       split at h
       ·cases h
       ·rename_i h2
        cases h
        have:=ih _ _ _ _ _ h2
        have:=ZrC d _ _ _ _ _ _ h1
        dsimp only at this
        omega
  rw[ZcD] at h
  split at h
  ·cases h
  ·split at h
   ·cases h
   ·split at h
    ·cases h
    ·rename_i hr
     cases h
     have:=row _ _ _ _ _ _ hr
     dsimp only
     omega
theorem Zly (hC:ChOk g w):∀ d,d≤1000→∀ v i j k L,((v:Nat):Int) < g.vars→i≤j→j≤w.length→L≤d→k < wcns g w Zag v i j→wcns g w Zag v i j < Zag→Zqh t g w 80 [.ptr 1000 0,I (v:Nat),I (i:Nat),I (j:Nat),I (k:Nat)] L (Zqi g w d v i j k L)
 | 0,_,v,i,j,k,L,hv,hij,hj,hL,hk,hM=>by
  obtain rfl:L=0:=by omega
  exact Zjl
 | d+1,hd,v,i,j,k,L,hv,hij,hj,hL,hk,hM=>by
  have ih:=Zly hC d (by omega)
  exact Zqj hC (fun r i j k L h h1 h2 h3 h4 h5=>ZrB hC (by omega) ih (fun v i m k L x e hL=>Nat.le_trans (ZrC d v i m k L x e) hL) (g.rules[r].right.length+1) r 0 i j k L h (by omega) (Nat.zero_le _) h1 h2 h3 h4 h5) hv hij hj hL (by omega) hk hM
def cntF (g:Gram) (w:List Int):Nat:=wcns g w Zag g.start.toNat 0 w.length
theorem ZfG (hg:g.ok):ofC g w (wcns g w Zag) g.start 0 w.length=cntF g w:=by
 have:=hg.start
 have:=hg.start0
 unfold ofC cntF
 rw[if_pos (by omega)]
 simp only[Int.toNat_natCast,Int.toNat_zero]
def opF (g:Gram) (w:List Int):Fault:=if (chF g w).code=0 then (if cntF g w=Zag then ⟨6, -1⟩ else ⟨0,0⟩) else chF g w
abbrev frH0 (t:Bool) (g:Gram) (w:List Int) (k0 k1 k2 L:Nat):Hp:=[(k0,frBx t g k1 L),(k1,cxBx g w (nulB g) k2),(k2,.mp (Zbj (wcns g w Zag)))]
theorem Zqk {u:Bool} (hf:g.fit) (hw:w.length≤100000000) (h:¬ (opF g w).code=0):ACalls Tryz.prog 44 [.d (Za6 t g),.d (ints u w)] [] (.tup [.d (.raw (.pointer none)),.d (Zba (opF g w))]) []:=by
 by_cases hc:(chF g w).code=0
 ·obtain⟨hC,hz⟩:=Zwk hc
  obtain⟨s1,s2⟩:=hC.small
  have hm:cntF g w=Zag:=Classical.byContradiction fun q=>h (by unfold opF;rw[if_pos hc,if_neg q])
  rw[show opF g w=⟨6, -1⟩ by unfold opF;rw[if_pos hc,if_pos hm]]
  have hnew:=ZoZ (t:=t) (u:=u) hC
  have hct:=ZdH hC.ok hC.cyc s1 s2
  rw[ZfG hC.ok,hm] at hct
  generalize wcns g w Zag=N at *
  generalize nulB g=NB at *
  refine ACalls.intro (n:=27) Tryz.func44 rfl rfl (by simp) (by rfl) ?_
  simp only[Zal]
  refine VA ?_
  refine Zab [(62,962),(60,960)] (hA:=hnew) (hr:=?_)
  refine VA ?_
  refine Zau [(1000,962),(1001,960)] (hA:=hct) (hr:=?_)
  refine VA ?_
  exact fin
 ·rw[show opF g w=chF g w by unfold opF;rw[if_neg hc]]
  have hnn:=ZuJ (t:=t) (u:=u) hf hw hc
  generalize chF g w=cf at *
  obtain⟨cc,ca⟩:=cf
  dsimp only at hc
  refine ACalls.intro (n:=27) Tryz.func44 rfl rfl (by simp) (by rfl) ?_
  simp only[Zal]
  refine VA ?_
  refine Zab [] (hA:=hnn) (hr:=?_)
  refine VA ?_
  exact fin
end
end Go.Proofs.YtbpmepgnjanhnaaGreat
