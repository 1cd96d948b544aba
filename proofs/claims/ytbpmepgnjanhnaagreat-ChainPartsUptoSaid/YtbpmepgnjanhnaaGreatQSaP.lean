import Derived.Test.YtbpmepgnjanhnaaGreatQRank
import Derived.Test.YtbpmepgnjanhnaaGreatQSimPf
import Derived.Test.YtbpmepgnjanhnaaGreatFrG
import Derived.Test.YtbpmepgnjanhnaaGreatQP1
import Derived.Test.YtbpmepgnjanhnaaGreatQChartJ
import Derived.Test.YtbpmepgnjanhnaaGreatQTreeA
import Derived.Test.YtbpmepgnjanhnaaGreatS5
set_option linter.unusedVariables false
set_option linter.unusedSimpArgs false
set_option linter.unusedSectionVars false
namespace Go.Proofs.YtbpmepgnjanhnaaGreat
open Go.RowKit
variable {g:Gram} {w:List Int}
def IsT (g:Gram) (w:List Int) (v i j:Nat) (x:Tree):Prop:=fits g x (v:Int)=true∧ZcZ g x=seg w i j
end Go.Proofs.YtbpmepgnjanhnaaGreat
namespace Go.Proofs.YtbpmepgnjanhnaaGreat
open Go.RowKit
section
variable {g:Gram} {w:List Int}
abbrev stN (g:Gram):Nat:=g.start.toNat
theorem Gram.ok.stN (h:g.ok):((stN g:Nat):Int)=g.start:=by have:=h.start0;unfold Go.Proofs.YtbpmepgnjanhnaaGreat.stN;omega
def IsW (g:Gram) (w:List Int) (x:Tree):Prop:=fits g x g.start=true∧ZcZ g x=w
theorem Zxf (hg:g.ok) {x:Tree}:IsW g w x↔IsT g w (stN g) 0 w.length x:=by
 unfold IsW IsT
 rw[hg.stN,Zxa]
theorem ZpB:∀ (n k:Nat) (acc:List Tree),(Zdd g w n k acc).2.code=0→(Zdd g w n k acc).1.length=acc.length+n∧(∀ i,∀ h:i < acc.length,(Zdd g w n k acc).1[i]? = some acc[i])∧(∀ i,i < n→(atF g w (k+i)).2.1.code=0∧(Zdd g w n k acc).1[acc.length+i]? = some (atF g w (k+i)).1)
 | 0,k,acc,h=>by
  rw[Zdd]
  exact⟨rfl,fun i hi=>List.getElem?_eq_getElem hi,fun i hi=>by omega⟩
 | n+1,k,acc,h=>by
  rw[Zdd] at h ⊢
  by_cases hc:(atF g w k).2.1.code=0
  ·rw[if_pos hc] at h ⊢
   obtain⟨h1,h2,h3⟩:=ZpB n (k+1) (acc++[(atF g w k).1]) h
   rw[List.length_append,List.length_singleton] at h1 h3
   refine⟨by omega,fun i hi=>?_,fun i hi=>?_⟩
   ·rw[h2 i (by simp;omega),List.getElem_append_left hi]
   ·cases i with
    | zero =>
     refine⟨hc,?_⟩
     have:=h2 acc.length (by simp)
     simpa using this
    | succ i =>
     obtain⟨q1,q2⟩:=h3 i (by omega)
     rw[show k+(i+1)=k+1+i by omega,show acc.length+(i+1)=acc.length+1+i by omega]
     exact⟨q1,q2⟩
  ·rw[if_neg hc] at h
   exact absurd h hc
theorem Zmw:∀ (n k:Nat) (acc:List Tree),¬ (Zdd g w n k acc).2.code=0→(Zdd g w n k acc)=([],⟨6, -1⟩)
 | 0,k,acc,h=>absurd rfl h
 | n+1,k,acc,h=>by
  rw[Zdd] at h ⊢
  by_cases hc:(atF g w k).2.1.code=0
  ·rw[if_pos hc] at h ⊢
   exact Zmw n (k+1) _ h
  ·rw[if_neg hc]
   unfold atF at hc ⊢
   split at hc
   ·exact absurd rfl hc
   ·rfl
theorem Zyk {k:Nat} (h:(atF g w k).2.1.code=0):∃ L,ZcD g (wcns g w Zag) w 400 g.start.toNat 0 w.length k 400=some ((atF g w k).1,L):=by
 unfold atF at h ⊢
 split
 ·rename_i x L e;exact⟨L,e⟩
 ·rename_i e;rw[e] at h;simp at h
structure ListOk (g:Gram) (w:List Int) (l:List Tree):Prop where
 ch:ChOk g w
 few:cntF g w≤200
 len:l.length=cntF g w
 at_:∀ k,∀ h:k < l.length,∃ L,ZcD g (wcns g w Zag) w 400 g.start.toNat 0 w.length k 400=some (l[k],L)
theorem Zc2 (h:(ZaK g w).2.code=0):ListOk g w (ZaK g w).1:=by
 have e:ZaK g w=if (opF g w).code=0 then (if 200 < cntF g w then ([],⟨6, -1⟩) else Zdd g w (cntF g w) 0 []) else ([],opF g w):=rfl
 rw[e] at h ⊢
 by_cases hc:(opF g w).code=0
 ·rw[if_pos hc] at h ⊢
  by_cases hm:200 < cntF g w
  ·rw[if_pos hm] at h;simp at h
  ·rw[if_neg hm] at h ⊢
   obtain⟨h1,h2,h3⟩:=ZpB _ _ _ h
   simp only[List.length_nil,Nat.zero_add] at h1 h3
   refine⟨(ZmH hc).1,by omega,h1,fun k hk=>?_⟩
   obtain⟨q1,q2⟩:=h3 k (by omega)
   obtain⟨L,e⟩:=Zyk q1
   rw[List.getElem?_eq_getElem hk] at q2
   exact⟨L,by rw[e,Option.some.inj q2]⟩
 ·rw[if_neg hc] at h
  exact absurd h hc
theorem ListOk.spec {l:List Tree} (h:ListOk g w l) {k:Nat} (hk:k < l.length):IsW g w l[k]∧cnt l[k]≤400∧rkT g (wcns g w Zag) w l[k] 0 w.length=k:=by
 obtain⟨L,e⟩:=h.at_ k hk
 have hg:=h.ch.ok
 have hl:=h.len
 have hf:=h.few
 have hcn:cntF g w=wcns g w Zag (stN g) 0 w.length:=rfl
 have hmC:Zag=4611686018427387904:=rfl
 obtain⟨h1,h2,h3,h4⟩:=ZjK hg (Zii g w Zag) 400 (stN g) 0 w.length k 400 (l[k],L) (by rw[hg.stN];exact hg.start) (Nat.zero_le _) (Nat.le_refl _) (by omega) (by omega) e
 dsimp only at h1 h2 h3 h4
 exact⟨(Zxf hg).2 ⟨h1,h2⟩,by omega,h3⟩
theorem ListOk.mem {l:List Tree} (h:ListOk g w l) {x:Tree} (hx:x∈l):IsW g w x∧cnt x≤400:=by
 obtain⟨k,hk,rfl⟩:=List.mem_iff_getElem.1 hx
 exact⟨(h.spec hk).1,(h.spec hk).2.1⟩
end
def insT (x:Tree):List Tree→List Tree
 | []=>[x]
 | y::l=>if (y::l).all (fun z=>decide (0 < ordT z x)) then x::y::l else y::insT x l
def Zey (l:List Tree):List Tree:=l.foldl (fun a x=>insT x a) []
theorem Zin (x:Tree):∀ l,(insT x l).Perm (x::l)
 | []=>List.Perm.refl _
 | y::l=>by
  rw[insT]
  split
  ·exact List.Perm.refl _
  ·exact ((Zin x l).cons y).trans (List.Perm.swap x y l)
def LeT (a b:Tree):Prop:=ordT a b≤0
theorem Zio (x:Tree):∀ l,l.Pairwise LeT→(insT x l).Pairwise LeT
 | [],_=>List.pairwise_cons.2 ⟨fun _ h=>(nomatch h),List.Pairwise.nil⟩
 | y::l,h=>by
  rw[insT]
  split
  ·rename_i hall
   simp only[List.all_eq_true,decide_eq_true_eq] at hall
   refine List.pairwise_cons.2 ⟨fun z hz=>?_,h⟩
   have:=hall z hz
   have:=Zc0 x z
   unfold LeT;omega
  ·rename_i hall
   obtain⟨h1,h2⟩:=List.pairwise_cons.1 h
   refine List.pairwise_cons.2 ⟨fun z hz=>?_,Zio x l h2⟩
   rcases List.mem_cons.1 ((Zin x l).mem_iff.1 hz) with rfl|hz
   ·refine Classical.byContradiction fun hn=>hall ?_
    simp only[List.all_eq_true,decide_eq_true_eq]
    intro q hq
    rcases List.mem_cons.1 hq with rfl|hq
    ·unfold LeT at hn;omega
    ·have h3:=h1 q hq
     unfold LeT at h3 hn
     refine Classical.byContradiction fun h4=>hn (ZeJ y q z h3 (by omega))
   ·exact h1 z hz
theorem ZjM:∀ (l a:List Tree),(l.foldl (fun a x=>insT x a) a).Perm (a++l)
 | [],a=>by rw[List.append_nil];exact List.Perm.refl _
 | x::l,a=>by
  rw[List.foldl_cons]
  refine (ZjM l _).trans ?_
  refine ((Zin x a).append_right l).trans ?_
  exact (List.perm_middle).symm
theorem Zg8:∀ (l a:List Tree),a.Pairwise LeT→(l.foldl (fun a x=>insT x a) a).Pairwise LeT
 | [],a,h=>h
 | x::l,a,h=>by rw[List.foldl_cons];exact Zg8 l _ (Zio x a h)
theorem ZgI (l:List Tree):(Zey l).Perm l:=by have:=ZjM l [];rwa [List.nil_append] at this
theorem Zmx (l:List Tree):(Zey l).Pairwise LeT:=Zg8 l [] List.Pairwise.nil
theorem ZfV:∀ {a b:List Tree},a.Perm b→a.Pairwise LeT→b.Pairwise LeT→a=b
 | [],b,h,_,_=>(List.nil_perm.1 h).symm
 | x::a,[],h,_,_=>by have:=h.length_eq;simp at this
 | x::a,y::b,h,h1,h2=>by
  obtain⟨p1,p2⟩:=List.pairwise_cons.1 h1
  obtain⟨q1,q2⟩:=List.pairwise_cons.1 h2
  have e:x=y:=by
   rcases List.mem_cons.1 (h.mem_iff.1 (List.mem_cons_self (a:=x))) with e|hx
   ·exact e
   ·rcases List.mem_cons.1 (h.mem_iff.2 (List.mem_cons_self (a:=y))) with e|hy
    ·exact e.symm
    ·have h3:=p1 y hy
     have h4:=q1 x hx
     have h5:=Zc0 x y
     unfold LeT at h3 h4
     exact ZdL x y (by omega)
  subst e
  rw[ZfV (List.Perm.cons_inv h) p2 q2]
def ZaE:Gram→List Step→Gram
 | g,[]=>g
 | _,s::r=>ZaE s.g r
def chnL (g:Gram):List Step→Nat→Fault
 | [],_=>⟨0,0⟩
 | s::r,i=>if ¬ (Zar g s).code=0 then ⟨(Zar g s).code,(i:Int)⟩ else chnL s.g r (i+1)
def chnF (g:Gram) (ss:List Step):Fault:=if ¬ (Zac g).code=0 then Zac g else if 8 < ss.length then ⟨6, -1⟩ else chnL g ss 0
def mkC (P:Int→Gram→Step×Fault) (g:Gram):List Int→Nat→List Step→List Step×Fault
 | [],_,out=>(out,⟨0,0⟩)
 | k::r,i,out=>if ¬ (P k (ZaE g out)).2.code=0 then ([],⟨(P k (ZaE g out)).2.code,(i:Int)⟩) else mkC P g r (i+1) (out++[(P k (ZaE g out)).1])
def Za5 (P:Int→Gram→Step×Fault) (g:Gram) (ks:List Int):List Step×Fault:=if ¬ (Zac g).code=0 then ([],Zac g) else if 8 < ks.length then ([],⟨6, -1⟩) else mkC P g ks 0 []
def ZpC (ss:List Step) (i:Nat):Step:=ss.getD i zeroStep
def ledA (old:Gram) (s:Step):List Tree→List Tree→Except Int (List Tree)
 | [],out=>.ok out
 | x::l,out=>if ¬ (Zce old s x).2.code=0 then .error (Zce old s x).2.code else ledA old s l (out++[(Zce old s x).1])
def trN (g:Gram) (ss:List Step) (w:List Int):Nat→List Tree→List Tree×Fault
 | 0,l=>(Zey l,⟨0,0⟩)
 | i+1,l=>match ledA (ZaE g (ss.take i)) (ZpC ss i) l [] with
  | .error c=>([],⟨c,(i:Int)⟩)
  | .ok out=>trN g ss w i (out++if w.length=0 then (ZpC ss i).empty else [])
def ZjN (g:Gram) (ss:List Step) (w:List Int):List Tree×Fault :=
 if ¬ (chnF g ss).code=0 then ([],chnF g ss) else
 if ¬ (ZaK (ZaE g ss) w).2.code=0 then ([],(ZaK (ZaE g ss) w).2) else trN g ss w ss.length (ZaK (ZaE g ss) w).1
theorem ZeO (g:Gram) (s:Step):∀ ss:List Step,ZaE g (ss++[s])=s.g
 | []=>rfl
 | [_]=>rfl
 | _::y::r=>by rw[List.cons_append,ZaE];exact ZeO _ s (y::r)
theorem ZpD (g:Gram) {ss:List Step} {n:Nat} (h:ss.length=n+1):ZaE g ss=(ss[n]'(by omega)).g:=by
 have e:ss=ss.take n++[ss[n]'(by omega)]:=by
  rw[←List.take_succ_eq_append_getElem,List.take_of_length_le (by omega)]
 conv=>lhs;rw[e]
 exact ZeO _ _ _
theorem ZqO (g:Gram) {ss:List Step} {i:Nat} (h:i < ss.length):ZaE g (ss.take (i+1))=ss[i].g:=by
 rw[List.take_succ_eq_append_getElem h]
 exact ZeO _ _ _
theorem Zs1 {ss:List Step} {i:Nat} (h:i < ss.length):ZpC ss i=ss[i]:=by
 unfold ZpC;rw[List.getD_eq_getElem?_getD,List.getElem?_eq_getElem h];rfl
theorem ZdP {g:Gram} (hf:g.fit):∀ {ss:List Step},(∀ s∈ss,s.fit)→(ZaE g ss).fit
 | [],_=>hf
 | s::r,h=>ZdP (h s (by simp)).g fun x hx=>h x (by simp[hx])
theorem Zs2 (g:Gram):∀ (ss:List Step) (i:Nat),(chnL g ss i).code=0→∀ (k:Nat) (h:k < ss.length),(Zar (ZaE g (ss.take k)) ss[k]).code=0
 | [],_,_,k,h=>by simp at h
 | s::r,i,hc,0,_=>by
  rw[chnL] at hc
  split at hc
  ·rename_i q;exact absurd hc q
  ·rename_i q;exact Classical.byContradiction q
 | s::r,i,hc,k+1,h=>by
  rw[chnL] at hc
  split at hc
  ·rename_i q;exact absurd hc q
  ·exact Zs2 s.g r (i+1) hc k (by simpa using h)
theorem Zxg {g:Gram} {ss:List Step} (h:(chnF g ss).code=0):g.ok∧ss.length≤8∧∀ (k:Nat) (h:k < ss.length),(Zar (ZaE g (ss.take k)) ss[k]).code=0:=by
 unfold chnF at h
 split at h
 ·rename_i q;exact absurd h q
 ·rename_i q
  split at h
  ·cases h
  ·exact⟨Za1 (Classical.byContradiction q),by omega,Zs2 g ss 0 h⟩
theorem Zs3 {old:Gram} {s:Step} {x:Tree}:cnt (Zce old s x).1≤400:=by
 have hz:cnt Zb6≤400:=by decide
 unfold Zce
 split
 ·split
  ·split
   ·exact hz
   ·split
    ·rename_i y _ q
     unfold ZaN at q
     split at q
     ·split at q
      ·rename_i h;exact h
      ·cases q
     ·rename_i h;exact absurd q h
    ·exact hz
   ·exact hz
  ·exact hz
 ·exact hz
theorem ZqP {old:Gram} {s:Step} (h:(Zar old s).code=0):s.empty.length≤200∧∀ x∈s.empty,cnt x≤400:=by
 rw[Zar] at h
 by_cases h0:(Zac old).code=0
 ·rw[if_pos h0] at h
  by_cases h1:(Zac s.g).code=0
  ·rw[if_pos h1] at h
   by_cases h2:s.empty.length≤200
   ·rw[if_pos h2] at h
    by_cases h3:s.empty.any (ZbD old)=true
    ·rw[if_pos h3] at h;cases h
    ·refine⟨h2,fun x hx=>?_⟩
     rw[List.any_eq_true] at h3
     have h4:ZbD old x=false:=by
      cases q:ZbD old x with
      | false=>rfl
      | true=>exact absurd ⟨x,hx,q⟩ h3
     unfold ZbD at h4
     rw[Bool.or_eq_false_iff] at h4
     have h5:(ZaN old x old.start).code=0:=by simpa using h4.1
     refine Classical.byContradiction fun hc=>?_
     unfold ZaN at h5
     rw[if_pos h0,if_neg hc] at h5
     cases h5
   ·rw[if_neg h2] at h;cases h
  ·rw[if_neg h1] at h;exact absurd h h1
 ·rw[if_neg h0] at h;exact absurd h h0
theorem Zs4 {old:Gram} {s:Step}:∀ {l out z:List Tree},ledA old s l out=.ok z→(∀ x∈out,cnt x≤400)→z.length=out.length+l.length∧∀ x∈z,cnt x≤400
 | [],out,z,h,ho=>by rw[ledA] at h;cases h;exact⟨by simp,ho⟩
 | x::l,out,z,h,ho=>by
  rw[ledA] at h
  split at h
  ·cases h
  ·obtain⟨h1,h2⟩:=Zs4 h (fun y hy=>by
    rcases List.mem_append.1 hy with hy|hy
    ·exact ho y hy
    ·rw[List.mem_singleton.1 hy];exact Zs3)
   refine⟨?_,h2⟩
   rw[h1,List.length_append,List.length_singleton,List.length_cons];omega
set_option maxRecDepth 100000
abbrev ZcR (u v:Bool) (ss:List Step):D:=.sl u 6 (ss.map (Zcf v))
theorem IsElt.stpP {h:Hp} {t u:Bool} {sz i:Nat} {l:List Step} (hi:i < l.length):IsElt h (.eptr t sz (l.map (Zcf u)) i 0) (.agg ([]++([iD l[i].g.vars,iD l[i].g.terms,iD l[i].g.start,ZaL u l[i].g.rules]++[.sl u 1 (l[i].frags.map (Zah u)),Zap u l[i].empty]))) 0 []:=by
 have:=IsElt.e (h:=h) (t:=t) (sz:=sz) (off:=0) (i:=i) (es:=l.map (Zcf u)) (x:=Zcf u l[i]) (by simp[hi])
 exact this
theorem IsElt.stpO {h:Hp} {u:Bool} {k m sz i:Nat} {e:TypeId} {l:List Step} (hk:hget h k=some (.row e sz (l.map (Zcf u)))) (hm:(l.map (Zcf u)).length=m) (hi:i < l.length):IsElt h (.optr k m i 0) (.agg ([]++([iD l[i].g.vars,iD l[i].g.terms,iD l[i].g.start,ZaL u l[i].g.rules]++[.sl u 1 (l[i].frags.map (Zah u)),Zap u l[i].empty]))) 0 [(k,some (.row e sz (l.map (Zcf u))))]:=by
 have:=IsElt.mapO (off:=0) hk hm hi
 exact this
set_option maxHeartbeats 4000000 in
theorem ZfW {t u v:Bool} {g:Gram} {ss:List Step} (hf:g.fit) (hs:∀ s∈ss,s.fit) (hl:ss.length≤100000000) :
  ACalls Tryz.prog 15 [.d (Za6 t g),.d (ZcR u v ss)] [] (.d (Za6 false (ZaE g ss))) []:=by
 refine ACalls.intro (n:=17) Tryz.func15 rfl rfl (by simp) (by rfl) ?_
 simp only[Zal]
 by_cases h0:0 < ss.length
 ·obtain⟨n,hn⟩:∃ n,ss.length=n+1:=⟨ss.length - 1,by omega⟩
  have hlt:n < ss.length:=by omega
  have e:=ZpD g hn
  have hsf:=(hs _ (List.getElem_mem hlt)).g
  have ho:=ZfI (t:=v) hsf
  have ei:(ss.length:Int) - 1=(n:Int):=by omega
  rw[e]
  refine VA ?_
  rw[ei]
  refine VA ?_
  refine Zp3 TY rfl Zaf rfl (IsElt.stpP hlt) rfl rfl rfl rfl ?_
  refine VA ?_
  refine Zab [] (hA:=ho) (hr:=?_)
  repeat (first|refine Zav 900 rfl ?_|refine wk1 ?_|refine Zaa (hr:=?_))
  exact fin
 ·have:ss=[]:=List.eq_nil_of_length_eq_zero (by omega)
  subst this
  have ho:=ZfI (t:=t) hf
  rw[show ZaE g []=g from rfl]
  refine VA ?_
  refine Zab [] (hA:=ho) (hr:=?_)
  repeat (first|refine Zav 900 rfl ?_|refine wk1 ?_|refine Zaa (hr:=?_))
  exact fin
set_option maxRecDepth 100000
abbrev stpV (v:Bool) (s:Step):D:=.agg [iD s.g.vars,iD s.g.terms,iD s.g.start,ZaL v s.g.rules,.sl v 1 (s.frags.map (Zah v)),Zap v s.empty]
theorem Zs5 {g:Gram} {ss:List Step} {i:Nat} (h:i < ss.length):chnL (ZaE g (ss.take i)) (ss.drop i) i=if ¬ (Zar (ZaE g (ss.take i)) ss[i]).code=0 then ⟨(Zar (ZaE g (ss.take i)) ss[i]).code,(i:Int)⟩ else chnL (ZaE g (ss.take (i+1))) (ss.drop (i+1)) (i+1):=by
 conv=>lhs;rw[List.drop_eq_getElem_cons h,chnL,←ZqO g h]
theorem ZcL {u v:Bool} {ss:List Step} {i:Nat}:D.sl u 6 (List.drop 0 (List.take i (ss.map (Zcf v))))=ZcR u v (ss.take i):=by rw[List.drop_zero,←List.map_take]
set_option maxHeartbeats 4000000 in
theorem Zn1 {t u v:Bool} {g:Gram} {ss:List Step} (hf:g.fit) (hs:∀ s∈ss,s.fit) (hl:ss.length≤100000000) :
  ACalls Tryz.prog 32 [.d (Za6 t g),.d (ZcR u v ss)] [] (.d (Zba (chnF g ss))) []:=by
 refine ACalls.intro (n:=42) Tryz.func32 rfl rfl (by simp) (by rfl) ?_
 simp only[Zal]
 have hgc:=ZaM (t:=t) hf.rules hf.right
 have hr:∃ r,chnF g ss=r:=⟨_,rfl⟩
 obtain⟨r,hr⟩:=hr
 rw[hr]
 unfold chnF at hr
 by_cases h0:(Zac g).code=0
 ·rw[if_neg (fun q=>q h0)] at hr
  by_cases h8:8 < ss.length
  ·rw[if_pos h8] at hr
   subst hr
   refine VA ?_
   refine Zab [] (hA:=hgc) (hr:=?_)
   refine VA ?_
   exact fin
  ·rw[if_neg h8] at hr
   refine VA ?_
   refine Zab [] (hA:=hgc) (hr:=?_)
   refine VA ?_
   refine Zak (X:=Nat) (fun i=>i≤ss.length∧chnL (ZaE g (ss.take i)) (ss.drop i) i=r) (fun i=>[(21,I i),(20,I ss.length),(19,.d (ZcR u v ss)),(2,.ptr 2 0),(4,.ptr 4 0),(0+1,.d (ZcR u v ss))]) (fun _=>[(2,Zay t g),(4,.box 31 [.d (iD 0),.d (iD 0)])]) (fun i=>ss.length - i) 0 ⟨Nat.zero_le _,hr⟩ ?_
   rintro i ⟨hi,hri⟩
   by_cases hlt:i < ss.length
   ·have hla:=ZfW (t:=t) (u:=u) (v:=v) (ss:=ss.take i) hf (fun s hs'=>hs s (List.mem_of_mem_take hs')) (by rw[List.length_take];omega)
    have hsi:=hs _ (List.getElem_mem hlt)
    have hlf:=ZdP hf (ss:=ss.take i) (fun s hs'=>hs s (List.mem_of_mem_take hs'))
    have hck:ACalls Tryz.prog 63 [.d (Za6 false (ZaE g (ss.take i))),.d (stpV v ss[i])] [] (.d (Zba (Zar (ZaE g (ss.take i)) ss[i]))) []:=Zf7 hlf hsi
    rw[Zs5 hlt] at hri
    by_cases hc:(Zar (ZaE g (ss.take i)) ss[i]).code=0
    ·rw[if_neg (fun q=>q hc)] at hri
     refine VA ?_
     rw[ZcL]
     refine Zab [] (hA:=hla) (hr:=?_)
     refine VA ?_
     refine Zab [] (hA:=hck) (hr:=?_)
     refine VA ?_
     exact Zae (i+1) (a:=⟨by omega,hri⟩)
    ·rw[if_pos hc] at hri
     subst hri
     refine VA ?_
     rw[ZcL]
     refine Zab [] (hA:=hla) (hr:=?_)
     refine VA ?_
     refine Zab [] (hA:=hck) (hr:=?_)
     refine VA ?_
     exact fin
   ·have hi:i=ss.length:=by omega
    subst hi
    rw[List.drop_length,chnL] at hri
    subst hri
    refine VA ?_
    exact fin
 ·rw[if_pos h0] at hr
  subst hr
  refine VA ?_
  refine Zab [] (hA:=hgc) (hr:=?_)
  refine VA ?_
  exact fin
structure Work where
 right:List Int
 l:List Frag
instance:Inhabited Work:=⟨⟨[],[]⟩⟩
def ZaX (a b:List Int):Bool:=match a,b with
 | x::_,y::_=>decide (x=y)
 | _,_=>false
def Za7:List Int→List Int→Nat
 | x::a,y::b=>if x=y then Za7 a b+1 else 0
 | _,_=>0
theorem ZqQ:∀ (a b:List Int),decide (0 < Za7 a b)=ZaX a b
 | x::a,y::b=>by rw[Za7,ZaX];split <;> simp[*]
 | [],b=>by simp[Za7,ZaX]
 | x::a,[]=>by simp[Za7,ZaX]
theorem Zmy:∀ (a b:List Int),Za7 a b≤a.length∧Za7 a b≤b.length
 | x::a,y::b=>by
  rw[Za7];have:=Zmy a b
  split <;> simp <;> omega
 | [],b=>by simp[Za7]
 | x::a,[]=>by simp[Za7]
theorem ZgJ:∀ (a b:List Int) (n:Nat),n < Za7 a b→∃ h1:n < a.length,∃ h2:n < b.length,a[n]=b[n]
 | x::a,y::b,n,h=>by
  rw[Za7] at h
  split at h
  ·rename_i e
   cases n with
   | zero=>exact⟨by simp,by simp,e⟩
   | succ n =>
    obtain⟨h1,h2,h3⟩:=ZgJ a b n (by omega)
    exact⟨by simp;omega,by simp;omega,by simpa using h3⟩
  ·omega
 | [],b,n,h=>by simp[Za7] at h
 | x::a,[],n,h=>by simp[Za7] at h
theorem Zip:∀ (a b:List Int),Za7 a b=a.length∨Za7 a b=b.length∨∃ h1:Za7 a b < a.length,∃ h2:Za7 a b < b.length,a[Za7 a b]≠b[Za7 a b]
 | x::a,y::b=>by
  rw[Za7]
  split
  ·rcases Zip a b with h|h|⟨h1,h2,h3⟩
   ·exact .inl (by simp[h])
   ·exact .inr (.inl (by simp[h]))
   ·exact .inr (.inr ⟨by simp;omega,by simp;omega,by simpa using h3⟩)
  ·rename_i e
   exact .inr (.inr ⟨by simp,by simp,by simpa using e⟩)
 | [],b=>.inl rfl
 | x::a,[]=>.inr (.inl rfl)
def ZcI (a:List Int):List Work→Nat
 | []=>a.length
 | x::r=>min (Za7 a x.right) (ZcI a r)
theorem ZgK (a:List Int):∀ (l:List Work),ZcI a l≤a.length
 | []=>Nat.le_refl _
 | x::r=>Nat.le_trans (Nat.min_le_right _ _) (ZgK a r)
theorem Zd4 {a:List Int}:∀ {l:List Work} {x:Work},x∈l→ZcI a l≤Za7 a x.right
 | y::r,x,h=>by
  rw[ZcI]
  rcases List.mem_cons.1 h with rfl|h
  ·exact Nat.min_le_left _ _
  ·exact Nat.le_trans (Nat.min_le_right _ _) (Zd4 h)
theorem ZgL {a:List Int} {n:Nat} (hn:n≤a.length):∀ {l:List Work},(∀ x∈l,n≤Za7 a x.right)→n≤ZcI a l
 | [],_=>hn
 | y::r,h=>by
  rw[ZcI]
  exact Nat.le_min.2 ⟨h y (by simp),ZgL hn (fun x hx=>h x (by simp[hx]))⟩
def ZbB (a:List Int):List Work→Nat→List Int
 | [],_=>[]
 | y::r,k=>if ZaX a y.right=true then (k:Int)::ZbB a r (k+1) else ZbB a r (k+1)
def Zas:List Work→Nat→List Int
 | [],_=>[]
 | x::r,i=>if ZbB x.right r (i+1)=[] then Zas r (i+1) else (i:Int)::ZbB x.right r (i+1)
theorem Zg9 (a:List Int):∀ (b c:List Work) (k:Nat),ZbB a (b++c) k=ZbB a b k++ZbB a c (k+b.length)
 | [],c,k=>by simp[ZbB]
 | y::b,c,k=>by
  simp only[List.cons_append,ZbB,Zg9 a b c (k+1),List.length_cons]
  rw[show k+1+b.length=k+(b.length+1) by omega]
  split <;> rfl
theorem ZqR {a:List Int} {l:List Work} {j i:Nat} (h:j < l.length) (hi:i≤j):ZbB a ((l.drop i).take (j+1 - i)) i=ZbB a ((l.drop i).take (j - i)) i++(if ZaX a l[j].right=true then [(j:Int)] else []):=by
 have e:(l.drop i).take (j+1 - i)=(l.drop i).take (j - i)++[l[j]]:=by
  rw[show j+1 - i=(j - i)+1 by omega,List.take_succ_eq_append_getElem (by simp;omega)]
  congr 2
  rw[List.getElem_drop];congr 1;omega
 rw[e,Zg9]
 simp only[ZbB,List.length_take,List.length_drop]
 rw[Nat.min_eq_left (by omega),show i+(j - i)=j by omega]
theorem Zk0 (a:List Int):∀ (l:List Work) (k:Nat),(ZbB a l k).length≤l.length
 | [],k=>by simp[ZbB]
 | y::l,k=>by
  have:=Zk0 a l (k+1)
  rw[ZbB];split <;> simp <;> omega
theorem Zn2 {l:List Work} {i:Nat} (h:i < l.length):Zas (l.drop i) i=if ZbB l[i].right (l.drop (i+1)) (i+1)=[] then Zas (l.drop (i+1)) (i+1) else (i:Int)::ZbB l[i].right (l.drop (i+1)) (i+1):=by
 rw[List.drop_eq_getElem_cons h,Zas]
theorem ZqS {l:List Work} {i:Nat} (h:¬ i < l.length):Zas (l.drop i) i=[]:=by
 rw[List.drop_of_length_le (by omega),Zas]
theorem ZfX {a:List Int}:∀ {l:List Work} {k:Nat} {z:Int},z∈ZbB a l k→∃ j:Nat,z=(j:Int)∧k≤j∧∃ h:j - k < l.length,ZaX a l[j - k].right=true
 | [],k,z,h=>by simp[ZbB] at h
 | y::l,k,z,h=>by
  rw[ZbB] at h
  have ih:=fun h=>ZfX (a:=a) (l:=l) (k:=k+1) (z:=z) h
  have next:z∈ZbB a l (k+1)→∃ j:Nat,z=(j:Int)∧k≤j∧∃ h:j - k < (y::l).length,ZaX a (y::l)[j - k].right=true:=fun h=>by
   obtain⟨j,h1,h2,h3,h4⟩:=ih h
   refine⟨j,h1,by omega,by simp;omega,?_⟩
   have e:j - k=(j - (k+1))+1:=by omega
   simp only[e,List.getElem_cons_succ];exact h4
  split at h
  ·rcases List.mem_cons.1 h with rfl|h
   ·exact⟨k,rfl,Nat.le_refl _,by simp,by simpa⟩
   ·exact next h
  ·exact next h
theorem Ziq {a:List Int}:∀ {l:List Work} {k j:Nat} (hj:j < l.length),ZaX a l[j].right=true→((k+j:Nat):Int)∈ZbB a l k
 | y::l,k,0,_,h=>by rw[ZbB,if_pos (by simpa using h)];simp
 | y::l,k,j+1,hj,h=>by
  have:=Ziq (a:=a) (l:=l) (k:=k+1) (j:=j) (by simpa using hj) (by simpa using h)
  rw[ZbB,show k+(j+1)=k+1+j by omega]
  split
  ·exact List.mem_cons_of_mem _ this
  ·exact this
def gapL (gap:Bool):List Frag:=bif gap then [.mk 3 0 []] else []
def Zmz (r:Int) (n:Nat):List Frag:=[.mk 1 r (.mk 3 0 []::ZaH n)]
def Zfi (n:Nat) (gap:Bool):List Frag:=[.mk 4 n (gapL gap++ZaH n)]
def ZfY (r:Int) (k:Nat) (gap:Bool):List Frag:=[.mk 1 r (gapL gap++ZaH k)]
def inL (at_:List Int) (i:Nat):Bool:=at_.any fun y=>decide ((i:Int)=y)
def ZaV (at_:List Int):List Work→Nat→List Work
 | [],_=>[]
 | x::r,i=>if inL at_ i=true then x::ZaV at_ r (i+1) else ZaV at_ r (i+1)
def Zbd (at_:List Int) (hd:Work):List Work→Nat→List Work
 | [],_=>[]
 | x::r,i=>if ((i:Int)=at_.getD 0 0) then hd::Zbd at_ hd r (i+1) else if inL at_ i=true then Zbd at_ hd r (i+1) else x::Zbd at_ hd r (i+1)
theorem ZfZ (at_:List Int):∀ (b c:List Work) (k:Nat),ZaV at_ (b++c) k=ZaV at_ b k++ZaV at_ c (k+b.length)
 | [],c,k=>by simp[ZaV]
 | y::b,c,k=>by
  simp only[List.cons_append,ZaV,ZfZ at_ b c (k+1),List.length_cons]
  rw[show k+1+b.length=k+(b.length+1) by omega]
  split <;> rfl
theorem Zn3 {at_:List Int} {l:List Work} {i:Nat} (h:i < l.length):ZaV at_ (l.take (i+1)) 0=ZaV at_ (l.take i) 0++(if inL at_ i=true then [l[i]] else []):=by
 rw[List.take_succ_eq_append_getElem h,ZfZ]
 simp only[ZaV,List.length_take,Nat.zero_add]
 rw[Nat.min_eq_left (by omega)]
theorem Zf0 (at_:List Int) (hd:Work):∀ (b c:List Work) (k:Nat),Zbd at_ hd (b++c) k=Zbd at_ hd b k++Zbd at_ hd c (k+b.length)
 | [],c,k=>by simp[Zbd]
 | y::b,c,k=>by
  simp only[List.cons_append,Zbd,Zf0 at_ hd b c (k+1),List.length_cons]
  rw[show k+1+b.length=k+(b.length+1) by omega]
  split
  ·rfl
  ·split <;> rfl
theorem Zn4 {at_:List Int} {hd:Work} {l:List Work} {i:Nat} (h:i < l.length):Zbd at_ hd (l.take (i+1)) 0=Zbd at_ hd (l.take i) 0++(if (i:Int)=at_.getD 0 0 then [hd] else if inL at_ i=true then [] else [l[i]]):=by
 rw[List.take_succ_eq_append_getElem h,Zf0]
 simp only[Zbd,List.length_take,Nat.zero_add]
 rw[Nat.min_eq_left (by omega)]
def Zep (l:List Work) (at_:List Int):List Int:=(l.getD (at_.getD 0 0).toNat default).right
def comW (l:List Work) (at_:List Int):Nat:=ZcI (Zep l at_) (ZaV at_ l 0)
def Zs6 (V:Nat) (N:Nat) (v:Nat) (l:List Work) (at_:List Int):Work:=⟨(Zep l at_).take (comW l at_)++[(N:Int)],Zfi (kids ((Zep l at_).take (comW l at_))).length (decide (V≤v))⟩
def Zdz (n k:Nat) (x:Work):Work:=⟨x.right.drop n,Zmz (x.l.getD 0 default).n ((kids x.right).length - k)⟩
def oneW (V:Nat) (all:List (List Work)) (v:Nat) (at_:List Int):List (List Work) :=
 all.set v (Zbd at_ (Zs6 V all.length v (all.getD v []) at_) (all.getD v []) 0) ++
  [(ZaV at_ (all.getD v []) 0).map (Zdz (comW (all.getD v []) at_) (kids ((Zep (all.getD v []) at_).take (comW (all.getD v []) at_))).length)]
inductive Fac (V:Nat):List (List Work)→Nat→Except Nat (List (List Work))→Prop
 | done {all:List (List Work)} {v:Nat} (h:¬ v < all.length):Fac V all v (.ok all)
 | next {all:List (List Work)} {v:Nat} {r:Except Nat (List (List Work))} (h:v < all.length) (hg:Zas (all.getD v []) 0=[]) (hr:Fac V all (v+1) r):Fac V all v r
 | many {all:List (List Work)} {v:Nat} (h:v < all.length) (hg:Zas (all.getD v []) 0≠[]) (hm:64 < (oneW V all v (Zas (all.getD v []) 0)).length):Fac V all v (.error v)
 | one {all:List (List Work)} {v:Nat} {r:Except Nat (List (List Work))} (h:v < all.length) (hg:Zas (all.getD v []) 0≠[]) (hm:¬ 64 < (oneW V all v (Zas (all.getD v []) 0)).length)
  (hr:Fac V (oneW V all v (Zas (all.getD v []) 0)) v r):Fac V all v r
theorem Zir (V:Nat) (all:List (List Work)) (v:Nat) (at_:List Int):(oneW V all v at_).length=all.length+1:=by simp[oneW]
theorem Zfj:∀ {l:List Work} {i:Nat},Zas l i≠[]→∃ (k:Nat) (h:k < l.length),Zas l i=((i+k:Nat):Int)::ZbB l[k].right (l.drop (k+1)) (i+k+1)∧ZbB l[k].right (l.drop (k+1)) (i+k+1)≠[] ∧
  ∀ (j:Nat) (hj:j < k),ZbB (l[j]'(by omega)).right (l.drop (j+1)) (i+j+1)=[]
 | [],i,h=>by simp[Zas] at h
 | x::r,i,h=>by
  rw[Zas] at h ⊢
  by_cases hm:ZbB x.right r (i+1)=[]
  ·rw[if_pos hm] at h ⊢
   obtain⟨k,h1,h2,h3,h4⟩:=Zfj h
   refine⟨k+1,by simp;omega,?_,?_,?_⟩
   ·rw[h2];simp only[List.getElem_cons_succ,List.drop_succ_cons]
    rw[show i+1+k=i+(k+1) by omega]
   ·simp only[List.getElem_cons_succ,List.drop_succ_cons]
    rw[show i+(k+1)+1=i+1+k+1 by omega];exact h3
   ·intro j hj
    cases j with
    | zero=>simpa using hm
    | succ j =>
     have:=h4 j (by omega)
     simp only[List.getElem_cons_succ,List.drop_succ_cons]
     rw[show i+(j+1)+1=i+1+j+1 by omega];exact this
  ·rw[if_neg hm]
   exact⟨0,by simp,by simp,by simpa using hm,fun j hj=>by omega⟩
theorem Zd5 (a b:List Int):ZaX a b=ZaX b a:=by
 unfold ZaX
 cases a <;> cases b <;> simp[eq_comm]
theorem ZmA {a b c:List Int} (h1:ZaX a b=true) (h2:ZaX b c=true):ZaX a c=true:=by
 unfold ZaX at *
 cases a <;> cases b <;> cases c <;> simp_all
theorem Zs7 {a:List Int} {l:List Work} {k j:Nat} (h:ZbB a l k=[]) (hj:j < l.length):ZaX a l[j].right=false:=by
 cases hc:ZaX a l[j].right with
 | false=>rfl
 | true=>have:=Ziq (k:=k) hj hc;rw[h] at this;cases this
structure Grp (l:List Work) (at_:List Int):Prop where
 first:∃ (k:Nat) (h:k < l.length),at_.getD 0 0=(k:Int)∧(∀ j (hj:j < l.length),inL at_ j=ZaX l[k].right l[j].right)∧ZaX l[k].right l[k].right=true
 two:2≤at_.length
 pair:∀ j,j < l.length→inL at_ j=true→∃ j',∃ h:j' < l.length,∃ h2:j < l.length,j'≠j∧ZaX l[j].right l[j'].right=true
theorem Zs8 {l:List Work} (h:Zas l 0≠[]):Grp l (Zas l 0):=by
 obtain⟨k,h1,h2,h3,h4⟩:=Zfj h
 simp only[Nat.zero_add] at h2 h3 h4
 obtain⟨z,hz⟩:=List.exists_mem_of_ne_nil _ h3
 obtain⟨j1,e1,e2,e3,e4⟩:=ZfX hz
 have hj1:j1 < l.length:=by simp only[List.length_drop] at e3;omega
 have e5:(l.drop (k+1))[j1 - (k+1)]=l[j1]:=by rw[List.getElem_drop];congr 1;omega
 rw[e5] at e4
 have hkk:ZaX l[k].right l[k].right=true:=ZmA e4 (by rw[Zd5];exact e4)
 have hin:∀ j (hj:j < l.length),inL (Zas l 0) j=ZaX l[k].right l[j].right:=by
  intro j hj
  rw[h2,inL,List.any_cons]
  rw[Bool.eq_iff_iff]
  simp only[Bool.or_eq_true,decide_eq_true_eq,List.any_eq_true]
  constructor
  ·rintro (h|⟨x,hx,e⟩)
   ·obtain rfl:j=k:=by omega
    exact hkk
   ·obtain⟨j2,d1,d2,d3,d4⟩:=ZfX hx
    obtain rfl:j=j2:=by omega
    have d5:(l.drop (k+1))[j - (k+1)]=l[j]:=by rw[List.getElem_drop];congr 1;omega
    rwa [d5] at d4
  ·intro ha
   rcases Nat.lt_trichotomy j k with hlt|rfl|hgt
   ·exfalso
    have:=Zs7 (h4 j hlt) (j:=k - (j+1)) (by simp;omega)
    have d5:(l.drop (j+1))[k - (j+1)]'(by simp;omega)=l[k]:=by rw[List.getElem_drop];congr 1;omega
    rw[d5,Zd5,ha] at this;cases this
   ·exact .inl rfl
   ·refine .inr ⟨(j:Int),?_,rfl⟩
    have d5:(l.drop (k+1))[j - (k+1)]'(by simp;omega)=l[j]:=by rw[List.getElem_drop];congr 1;omega
    have:=Ziq (a:=l[k].right) (l:=l.drop (k+1)) (k:=k+1) (j:=j - (k+1)) (by simp;omega) (by rw[d5];exact ha)
    rwa [show k+1+(j - (k+1))=j by omega] at this
 refine⟨⟨k,h1,by rw[h2];rfl,hin,hkk⟩,?_,fun j hj hi=>?_⟩
 ·rw[h2]
  cases hm:ZbB l[k].right (l.drop (k+1)) (k+1) with
  | nil=>exact absurd hm h3
  | cons _ _=>simp
 ·rw[hin j hj] at hi
  by_cases hjk:j=k
  ·subst hjk
   exact⟨j1,hj1,hj,by omega,e4⟩
  ·exact⟨k,h1,hj,fun e=>hjk e.symm,by rw[Zd5];exact hi⟩
end Go.Proofs.YtbpmepgnjanhnaaGreat
