import Derived.Test.YtbpmepgnjanhnaaGreatQRank
import Derived.Test.YtbpmepgnjanhnaaGreatQSimPf
import Derived.Test.YtbpmepgnjanhnaaGreatFrG
import Derived.Test.YtbpmepgnjanhnaaGreatP1
import Derived.Test.YtbpmepgnjanhnaaGreatQChartD
import Derived.Test.YtbpmepgnjanhnaaGreatQFrA
import Derived.Test.YtbpmepgnjanhnaaGreatQFrC
import Derived.Test.YtbpmepgnjanhnaaGreatS5
set_option linter.unusedVariables false
set_option linter.unusedSimpArgs false
set_option linter.unusedSectionVars false
namespace Go.Proofs.YtbpmepgnjanhnaaGreat
open Go.RowKit
variable {g:Gram} {w:List Int}
def IsT (g:Gram) (w:List Int) (v i j:Nat) (x:Tree):Prop:=fits g x (v:Int)=true∧ZbT g x=seg w i j
end Go.Proofs.YtbpmepgnjanhnaaGreat
namespace Go.Proofs.YtbpmepgnjanhnaaGreat
open Go.RowKit
section
variable {g:Gram} {w:List Int}
abbrev stN (g:Gram):Nat:=g.start.toNat
theorem Gram.ok.stN (h:g.ok):((stN g:Nat):Int)=g.start:=by have:=h.start0;unfold Go.Proofs.YtbpmepgnjanhnaaGreat.stN;omega
def IsW (g:Gram) (w:List Int) (x:Tree):Prop:=fits g x g.start=true∧ZbT g x=w
theorem ZuY (hg:g.ok) {x:Tree}:IsW g w x↔IsT g w (stN g) 0 w.length x:=by
 unfold IsW IsT
 rw[hg.stN,ZuR]
theorem Zos:∀ (n k:Nat) (acc:List Tree),(ZcZ g w n k acc).2.code=0→(ZcZ g w n k acc).1.length=acc.length+n∧(∀ i,∀ h:i < acc.length,(ZcZ g w n k acc).1[i]?=some acc[i])∧(∀ i,i < n→(atF g w (k+i)).2.1.code=0∧(ZcZ g w n k acc).1[acc.length+i]?=some (atF g w (k+i)).1)
 | 0,k,acc,h=>by
  rw[ZcZ]
  exact⟨rfl,fun i hi=>List.getElem?_eq_getElem hi,fun i hi=>by omega⟩
 | n+1,k,acc,h=>by
  rw[ZcZ] at h ⊢
  by_cases hc:(atF g w k).2.1.code=0
  ·rw[if_pos hc] at h ⊢
   obtain⟨h1,h2,h3⟩:=Zos n (k+1) (acc++[(atF g w k).1]) h
   rw[List.length_append,List.length_singleton] at h1 h3
   refine⟨by omega,fun i hi=>?_,fun i hi=>?_⟩
   ·rw[h2 i (by simp;omega),List.getElem_append_left hi]
   ·cases i with
    | zero =>
     refine⟨hc,?_⟩
     have:=h2 acc.length (by simp)
     simpa using this
    | succ i =>
     obtain⟨q1,q2⟩:=h3 i (by omega)
     rw[show k+(i+1)=k+1+i by omega,show acc.length+(i+1)=acc.length+1+i by omega]
     exact⟨q1,q2⟩
  ·rw[if_neg hc] at h
   exact absurd h hc
theorem ZvX {k:Nat} (h:(atF g w k).2.1.code=0):∃ L,Zbq g (wcns g w Zac) w 400 g.start.toNat 0 w.length k 400=some ((atF g w k).1,L):=by
 unfold atF at h ⊢
 split
 ·rename_i x L e;exact⟨L,e⟩
 ·rename_i e;rw[e] at h;simp at h
structure ListOk (g:Gram) (w:List Int) (l:List Tree):Prop where
 ch:ChOk g w
 few:cntF g w≤200
 len:l.length=cntF g w
 at_:∀ k,∀ h:k < l.length,∃ L,Zbq g (wcns g w Zac) w 400 g.start.toNat 0 w.length k 400=some (l[k],L)
theorem Zkb (h:(ZaG g w).2.code=0):ListOk g w (ZaG g w).1:=by
 have e:ZaG g w=if (opF g w).code=0 then (if 200 < cntF g w then ([],⟨6, -1⟩) else ZcZ g w (cntF g w) 0 []) else ([],opF g w):=rfl
 rw[e] at h ⊢
 by_cases hc:(opF g w).code=0
 ·rw[if_pos hc] at h ⊢
  by_cases hm:200 < cntF g w
  ·rw[if_pos hm] at h;simp at h
  ·rw[if_neg hm] at h ⊢
   obtain⟨h1,h2,h3⟩:=Zos _ _ _ h
   simp only[List.length_nil,Nat.zero_add] at h1 h3
   refine⟨(ZlC hc).1,by omega,h1,fun k hk=>?_⟩
   obtain⟨q1,q2⟩:=h3 k (by omega)
   obtain⟨L,e⟩:=ZvX q1
   rw[List.getElem?_eq_getElem hk] at q2
   exact⟨L,by rw[e,Option.some.inj q2]⟩
 ·rw[if_neg hc] at h
  exact absurd h hc
theorem ListOk.spec {l:List Tree} (h:ListOk g w l) {k:Nat} (hk:k < l.length):IsW g w l[k]∧cnt l[k]≤400∧rkT g (wcns g w Zac) w l[k] 0 w.length=k:=by
 obtain⟨L,e⟩:=h.at_ k hk
 have hg:=h.ch.ok
 have hl:=h.len
 have hf:=h.few
 have hcn:cntF g w=wcns g w Zac (stN g) 0 w.length:=rfl
 have hmC:Zac=4611686018427387904:=rfl
 obtain⟨h1,h2,h3,h4⟩:=Zje hg (Zec g w Zac) 400 (stN g) 0 w.length k 400 (l[k],L) (by rw[hg.stN];exact hg.start) (Nat.zero_le _) (Nat.le_refl _) (by omega) (by omega) e
 dsimp only at h1 h2 h3 h4
 exact⟨(ZuY hg).2 ⟨h1,h2⟩,by omega,h3⟩
theorem ListOk.mem {l:List Tree} (h:ListOk g w l) {x:Tree} (hx:x∈l):IsW g w x∧cnt x≤400:=by
 obtain⟨k,hk,rfl⟩:=List.mem_iff_getElem.1 hx
 exact⟨(h.spec hk).1,(h.spec hk).2.1⟩
end
def insT (x:Tree):List Tree→List Tree
 | []=>[x]
 | y::l=>if (y::l).all (fun z=>decide (0 < ordT z x)) then x::y::l else y::insT x l
def ZcP (l:List Tree):List Tree:=l.foldl (fun a x=>insT x a) []
theorem Zdv (x:Tree):∀ l,(insT x l).Perm (x::l)
 | []=>List.Perm.refl _
 | y::l=>by
  rw[insT]
  split
  ·exact List.Perm.refl _
  ·exact ((Zdv x l).cons y).trans (List.Perm.swap x y l)
def LeT (a b:Tree):Prop:=ordT a b≤0
theorem ZhR (x:Tree):∀ l,l.Pairwise LeT→(insT x l).Pairwise LeT
 | [],_=>List.pairwise_cons.2 ⟨fun _ h=>(nomatch h),List.Pairwise.nil⟩
 | y::l,h=>by
  rw[insT]
  split
  ·rename_i hall
   simp only[List.all_eq_true,decide_eq_true_eq] at hall
   refine List.pairwise_cons.2 ⟨fun z hz=>?_,h⟩
   have:=hall z hz
   have:=ZcO x z
   unfold LeT;omega
  ·rename_i hall
   obtain⟨h1,h2⟩:=List.pairwise_cons.1 h
   refine List.pairwise_cons.2 ⟨fun z hz=>?_,ZhR x l h2⟩
   rcases List.mem_cons.1 ((Zdv x l).mem_iff.1 hz) with rfl|hz
   ·refine Classical.byContradiction fun hn=>hall ?_
    simp only[List.all_eq_true,decide_eq_true_eq]
    intro q hq
    rcases List.mem_cons.1 hq with rfl|hq
    ·unfold LeT at hn;omega
    ·have h3:=h1 q hq
     unfold LeT at h3 hn
     refine Classical.byContradiction fun h4=>hn (Zep y q z h3 (by omega))
   ·exact h1 z hz
theorem Zjg:∀ (l a:List Tree),(l.foldl (fun a x=>insT x a) a).Perm (a++l)
 | [],a=>by rw[List.append_nil];exact List.Perm.refl _
 | x::l,a=>by
  rw[List.foldl_cons]
  refine (Zjg l _).trans ?_
  refine ((Zdv x a).append_right l).trans ?_
  exact (List.perm_middle).symm
theorem Zgv:∀ (l a:List Tree),a.Pairwise LeT→(l.foldl (fun a x=>insT x a) a).Pairwise LeT
 | [],a,h=>h
 | x::l,a,h=>by rw[List.foldl_cons];exact Zgv l _ (ZhR x a h)
theorem Zdw (l:List Tree):(ZcP l).Perm l:=by have:=Zjg l [];rwa [List.nil_append] at this
theorem Zlz (l:List Tree):(ZcP l).Pairwise LeT:=Zgv l [] List.Pairwise.nil
theorem ZfB:∀ {a b:List Tree},a.Perm b→a.Pairwise LeT→b.Pairwise LeT→a=b
 | [],b,h,_,_=>(List.nil_perm.1 h).symm
 | x::a,[],h,_,_=>by have:=h.length_eq;simp at this
 | x::a,y::b,h,h1,h2=>by
  obtain⟨p1,p2⟩:=List.pairwise_cons.1 h1
  obtain⟨q1,q2⟩:=List.pairwise_cons.1 h2
  have e:x=y:=by
   rcases List.mem_cons.1 (h.mem_iff.1 (List.mem_cons_self (a:=x))) with e|hx
   ·exact e
   ·rcases List.mem_cons.1 (h.mem_iff.2 (List.mem_cons_self (a:=y))) with e|hy
    ·exact e.symm
    ·have h3:=p1 y hy
     have h4:=q1 x hx
     have h5:=ZcO x y
     unfold LeT at h3 h4
     exact Zdu x y (by omega)
  subst e
  rw[ZfB (List.Perm.cons_inv h) p2 q2]
end Go.Proofs.YtbpmepgnjanhnaaGreat
namespace Go.Proofs.YtbpmepgnjanhnaaGreat
open Go.RowKit
def ZaA:Gram→List Step→Gram
 | g,[]=>g
 | _,s::r=>ZaA s.g r
def chnL (g:Gram):List Step→Nat→Zb5
 | [],_=>⟨0,0⟩
 | s::r,i=>if ¬ (Zas g s).code=0 then ⟨(Zas g s).code,(i:Int)⟩ else chnL s.g r (i+1)
def chnF (g:Gram) (ss:List Step):Zb5:=if ¬ (Zah g).code=0 then Zah g else if 8 < ss.length then ⟨6, -1⟩ else chnL g ss 0
def mkC (P:Int→Gram→Step×Zb5) (g:Gram):List Int→Nat→List Step→List Step×Zb5
 | [],_,out=>(out,⟨0,0⟩)
 | k::r,i,out=>if ¬ (P k (ZaA g out)).2.code=0 then ([],⟨(P k (ZaA g out)).2.code,(i:Int)⟩) else mkC P g r (i+1) (out++[(P k (ZaA g out)).1])
def Zpx (P:Int→Gram→Step×Zb5) (g:Gram) (ks:List Int):List Step×Zb5:=if ¬ (Zah g).code=0 then ([],Zah g) else if 8 < ks.length then ([],⟨6, -1⟩) else mkC P g ks 0 []
def ZhS (ss:List Step) (i:Nat):Step:=ss.getD i zeroStep
def bkN (g:Gram) (ss:List Step):Nat→Tree→Tree×Zb5
 | 0,t=>(t,⟨0,0⟩)
 | i+1,t=>if ¬ (ZaL (ZaA g (ss.take i)) (ZhS ss i) t).2.code=0 then (ZaO,⟨(ZaL (ZaA g (ss.take i)) (ZhS ss i) t).2.code,(i:Int)⟩) else bkN g ss i (ZaL (ZaA g (ss.take i)) (ZhS ss i) t).1
def ZfC (g:Gram) (ss:List Step) (t:Tree):Tree×Zb5 :=
 if ¬ (chnF g ss).code=0 then (ZaO,chnF g ss) else
 if ¬ (Zaw (ZaA g ss) t (ZaA g ss).start).code=0 then (ZaO,Zaw (ZaA g ss) t (ZaA g ss).start) else bkN g ss ss.length t
def ledA (old:Gram) (s:Step):List Tree→List Tree→Except Int (List Tree)
 | [],out=>.ok out
 | x::l,out=>if ¬ (ZaL old s x).2.code=0 then .error (ZaL old s x).2.code else ledA old s l (out++[(ZaL old s x).1])
def trN (g:Gram) (ss:List Step) (w:List Int):Nat→List Tree→List Tree×Zb5
 | 0,l=>(ZcP l,⟨0,0⟩)
 | i+1,l=>match ledA (ZaA g (ss.take i)) (ZhS ss i) l [] with
  | .error c=>([],⟨c,(i:Int)⟩)
  | .ok out=>trN g ss w i (out++if w.length=0 then (ZhS ss i).empty else [])
def ZcY (g:Gram) (ss:List Step) (w:List Int):List Tree×Zb5 :=
 if ¬ (chnF g ss).code=0 then ([],chnF g ss) else
 if ¬ (ZaG (ZaA g ss) w).2.code=0 then ([],(ZaG (ZaA g ss) w).2) else trN g ss w ss.length (ZaG (ZaA g ss) w).1
theorem Zf5 (g:Gram) (s:Step):∀ ss:List Step,ZaA g (ss++[s])=s.g
 | []=>rfl
 | [_]=>rfl
 | _::y::r=>by rw[List.cons_append,ZaA];exact Zf5 _ s (y::r)
theorem Zot (g:Gram) {ss:List Step} {n:Nat} (h:ss.length=n+1):ZaA g ss=(ss[n]'(by omega)).g:=by
 have e:ss=ss.take n++[ss[n]'(by omega)]:=by
  rw[←List.take_succ_eq_append_getElem,List.take_of_length_le (by omega)]
 conv=>lhs;rw[e]
 exact Zf5 _ _ _
theorem Zf6 (g:Gram) {ss:List Step} {i:Nat} (h:i < ss.length):ZaA g (ss.take (i+1))=ss[i].g:=by
 rw[List.take_succ_eq_append_getElem h]
 exact Zf5 _ _ _
theorem ZlA {ss:List Step} {i:Nat} (h:i < ss.length):ZhS ss i=ss[i]:=by
 unfold ZhS;rw[List.getD_eq_getElem?_getD,List.getElem?_eq_getElem h];rfl
theorem Zbf {g:Gram} (hf:g.fit):∀ {ss:List Step},(∀ s∈ss,s.fit)→(ZaA g ss).fit
 | [],_=>hf
 | s::r,h=>Zbf (h s (by simp)).g fun x hx=>h x (by simp[hx])
theorem Zrk (g:Gram):∀ (ss:List Step) (i:Nat),(chnL g ss i).code=0→∀ (k:Nat) (h:k < ss.length),(Zas (ZaA g (ss.take k)) ss[k]).code=0
 | [],_,_,k,h=>by simp at h
 | s::r,i,hc,0,_=>by
  rw[chnL] at hc
  split at hc
  ·rename_i q;exact absurd hc q
  ·rename_i q;exact Classical.byContradiction q
 | s::r,i,hc,k+1,h=>by
  rw[chnL] at hc
  split at hc
  ·rename_i q;exact absurd hc q
  ·exact Zrk s.g r (i+1) hc k (by simpa using h)
theorem ZmX {g:Gram} {ss:List Step} (h:(chnF g ss).code=0):g.ok∧ss.length≤8∧∀ (k:Nat) (h:k < ss.length),(Zas (ZaA g (ss.take k)) ss[k]).code=0:=by
 unfold chnF at h
 split at h
 ·rename_i q;exact absurd h q
 ·rename_i q
  split at h
  ·cases h
  ·exact⟨Zbr (Classical.byContradiction q),by omega,Zrk g ss 0 h⟩
theorem ZfD {old:Gram} {s:Step} {x:Tree}:cnt (ZaL old s x).1≤400:=by
 have hz:cnt ZaO≤400:=by decide
 unfold ZaL
 split
 ·split
  ·split
   ·exact hz
   ·split
    ·rename_i y _ q
     unfold Zaw at q
     split at q
     ·split at q
      ·rename_i h;exact h
      ·cases q
     ·rename_i h;exact absurd q h
    ·exact hz
   ·exact hz
  ·exact hz
 ·exact hz
theorem Zf7 {old:Gram} {s:Step} (h:(Zas old s).code=0):s.empty.length≤200∧∀ x∈s.empty,cnt x≤400:=by
 rw[Zas] at h
 by_cases h0:(Zah old).code=0
 ·rw[if_pos h0] at h
  by_cases h1:(Zah s.g).code=0
  ·rw[if_pos h1] at h
   by_cases h2:s.empty.length≤200
   ·rw[if_pos h2] at h
    by_cases h3:s.empty.any (Zbe old)=true
    ·rw[if_pos h3] at h;cases h
    ·refine⟨h2,fun x hx=>?_⟩
     rw[List.any_eq_true] at h3
     have h4:Zbe old x=false:=by
      cases q:Zbe old x with
      | false=>rfl
      | true=>exact absurd ⟨x,hx,q⟩ h3
     unfold Zbe at h4
     rw[Bool.or_eq_false_iff] at h4
     have h5:(Zaw old x old.start).code=0:=by simpa using h4.1
     refine Classical.byContradiction fun hc=>?_
     unfold Zaw at h5
     rw[if_pos h0,if_neg hc] at h5
     cases h5
   ·rw[if_neg h2] at h;cases h
  ·rw[if_neg h1] at h;exact absurd h h1
 ·rw[if_neg h0] at h;exact absurd h h0
theorem Zkc {old:Gram} {s:Step}:∀ {l out z:List Tree},ledA old s l out=.ok z→(∀ x∈out,cnt x≤400)→z.length=out.length+l.length∧∀ x∈z,cnt x≤400
 | [],out,z,h,ho=>by rw[ledA] at h;cases h;exact⟨by simp,ho⟩
 | x::l,out,z,h,ho=>by
  rw[ledA] at h
  split at h
  ·cases h
  ·obtain⟨h1,h2⟩:=Zkc h (fun y hy=>by
    rcases List.mem_append.1 hy with hy|hy
    ·exact ho y hy
    ·rw[List.mem_singleton.1 hy];exact ZfD)
   refine⟨?_,h2⟩
   rw[h1,List.length_append,List.length_singleton,List.length_cons];omega
end Go.Proofs.YtbpmepgnjanhnaaGreat
namespace Go.Proofs.YtbpmepgnjanhnaaGreat
open Go.RowKit
set_option maxRecDepth 100000
abbrev ZaZ (u v:Bool) (ss:List Step):D:=.sl u 6 (ss.map (Zbv v))
theorem IsElt.stpP {h:Hp} {t u:Bool} {sz i:Nat} {l:List Step} (hi:i < l.length):IsElt h (.eptr t sz (l.map (Zbv u)) i 0) (.agg ([]++([iD l[i].g.vars,iD l[i].g.terms,iD l[i].g.start,ZaT u l[i].g.rules]++[.sl u 1 (l[i].frags.map (Zam u)),Zal u l[i].empty]))) 0 []:=by
 have:=IsElt.e (h:=h) (t:=t) (sz:=sz) (off:=0) (i:=i) (es:=l.map (Zbv u)) (x:=Zbv u l[i]) (by simp[hi])
 exact this
theorem IsElt.stpO {h:Hp} {u:Bool} {k m sz i:Nat} {e:TypeId} {l:List Step} (hk:hget h k=some (.row e sz (l.map (Zbv u)))) (hm:(l.map (Zbv u)).length=m) (hi:i < l.length):IsElt h (.optr k m i 0) (.agg ([]++([iD l[i].g.vars,iD l[i].g.terms,iD l[i].g.start,ZaT u l[i].g.rules]++[.sl u 1 (l[i].frags.map (Zam u)),Zal u l[i].empty]))) 0 [(k,some (.row e sz (l.map (Zbv u))))]:=by
 have:=IsElt.mapO (off:=0) hk hm hi
 exact this
set_option maxHeartbeats 4000000 in
theorem Zes {t u v:Bool} {g:Gram} {ss:List Step} (hf:g.fit) (hs:∀ s∈ss,s.fit) (hl:ss.length≤100000000) :
  ACalls Tryz.prog 15 [.d (ZaH t g),.d (ZaZ u v ss)] [] (.d (ZaH false (ZaA g ss))) []:=by
 refine ACalls.intro (n:=17) Tryz.func15 rfl rfl (by simp) (by rfl) ?_
 simp only[Zak]
 by_cases h0:0 < ss.length
 ·obtain⟨n,hn⟩:∃ n,ss.length=n+1:=⟨ss.length - 1,by omega⟩
  have hlt:n < ss.length:=by omega
  have e:=Zot g hn
  have hsf:=(hs _ (List.getElem_mem hlt)).g
  have ho:=Zfo (t:=v) hsf
  have ei:(ss.length:Int) - 1=(n:Int):=by omega
  rw[e]
  repeat (first|refine wk ?_|refine Zaa (hr:=?_))
  rw[ei]
  repeat (first|refine wk ?_|refine Zaa (hr:=?_))
  refine Zg2 TY rfl Zag rfl (IsElt.stpP hlt) rfl rfl rfl rfl ?_
  repeat (first|refine wk ?_|refine Zaa (hr:=?_))
  refine Zab [] (hA:=ho) (hr:=?_)
  repeat (first|refine ZaF 900 rfl ?_|refine wk1 ?_|refine Zaa (hr:=?_))
  exact fin
 ·have:ss=[]:=List.eq_nil_of_length_eq_zero (by omega)
  subst this
  have ho:=Zfo (t:=t) hf
  rw[show ZaA g []=g from rfl]
  repeat (first|refine wk ?_|refine Zaa (hr:=?_))
  refine Zab [] (hA:=ho) (hr:=?_)
  repeat (first|refine ZaF 900 rfl ?_|refine wk1 ?_|refine Zaa (hr:=?_))
  exact fin
end Go.Proofs.YtbpmepgnjanhnaaGreat
namespace Go.Proofs.YtbpmepgnjanhnaaGreat
open Go.RowKit
set_option maxRecDepth 100000
abbrev stpV (v:Bool) (s:Step):D:=.agg [iD s.g.vars,iD s.g.terms,iD s.g.start,ZaT v s.g.rules,.sl v 1 (s.frags.map (Zam v)),Zal v s.empty]
theorem ZlB {g:Gram} {ss:List Step} {i:Nat} (h:i < ss.length):chnL (ZaA g (ss.take i)) (ss.drop i) i=if ¬ (Zas (ZaA g (ss.take i)) ss[i]).code=0 then ⟨(Zas (ZaA g (ss.take i)) ss[i]).code,(i:Int)⟩ else chnL (ZaA g (ss.take (i+1))) (ss.drop (i+1)) (i+1):=by
 conv=>lhs;rw[List.drop_eq_getElem_cons h,chnL,←Zf6 g h]
theorem ZaQ {u v:Bool} {ss:List Step} {i:Nat}:D.sl u 6 (List.drop 0 (List.take i (ss.map (Zbv v))))=ZaZ u v (ss.take i):=by rw[List.drop_zero,←List.map_take]
set_option maxHeartbeats 4000000 in
theorem ZeU {t u v:Bool} {g:Gram} {ss:List Step} (hf:g.fit) (hs:∀ s∈ss,s.fit) (hl:ss.length≤100000000) :
  ACalls Tryz.prog 32 [.d (ZaH t g),.d (ZaZ u v ss)] [] (.d (ZaN (chnF g ss))) []:=by
 refine ACalls.intro (n:=42) Tryz.func32 rfl rfl (by simp) (by rfl) ?_
 simp only[Zak]
 have hgc:=ZaY (t:=t) hf.rules hf.right
 have hr:∃ r,chnF g ss=r:=⟨_,rfl⟩
 obtain⟨r,hr⟩:=hr
 rw[hr]
 unfold chnF at hr
 by_cases h0:(Zah g).code=0
 ·rw[if_neg (fun q=>q h0)] at hr
  by_cases h8:8 < ss.length
  ·rw[if_pos h8] at hr
   subst hr
   repeat (first|refine wk ?_|refine Zaa (hr:=?_))
   refine Zab [] (hA:=hgc) (hr:=?_)
   repeat (first|refine wk ?_|refine Zaa (hr:=?_))
   exact fin
  ·rw[if_neg h8] at hr
   repeat (first|refine wk ?_|refine Zaa (hr:=?_))
   refine Zab [] (hA:=hgc) (hr:=?_)
   repeat (first|refine wk ?_|refine Zaa (hr:=?_))
   refine Zai (X:=Nat) (fun i=>i≤ss.length∧chnL (ZaA g (ss.take i)) (ss.drop i) i=r) (fun i=>[(21,I i),(20,I ss.length),(19,.d (ZaZ u v ss)),(2,.ptr 2 0),(4,.ptr 4 0),(0+1,.d (ZaZ u v ss))]) (fun _=>[(2,Zar t g),(4,.box 31 [.d (iD 0),.d (iD 0)])]) (fun i=>ss.length - i) 0 ⟨Nat.zero_le _,hr⟩ ?_
   rintro i ⟨hi,hri⟩
   by_cases hlt:i < ss.length
   ·have hla:=Zes (t:=t) (u:=u) (v:=v) (ss:=ss.take i) hf (fun s hs'=>hs s (List.mem_of_mem_take hs')) (by rw[List.length_take];omega)
    have hsi:=hs _ (List.getElem_mem hlt)
    have hlf:=Zbf hf (ss:=ss.take i) (fun s hs'=>hs s (List.mem_of_mem_take hs'))
    have hck:ACalls Tryz.prog 63 [.d (ZaH false (ZaA g (ss.take i))),.d (stpV v ss[i])] [] (.d (ZaN (Zas (ZaA g (ss.take i)) ss[i]))) []:=Zfs hlf hsi
    rw[ZlB hlt] at hri
    by_cases hc:(Zas (ZaA g (ss.take i)) ss[i]).code=0
    ·rw[if_neg (fun q=>q hc)] at hri
     repeat (first|refine wk ?_|refine Zaa (hr:=?_))
     rw[ZaQ]
     refine Zab [] (hA:=hla) (hr:=?_)
     repeat (first|refine wk ?_|refine Zaa (hr:=?_))
     refine Zab [] (hA:=hck) (hr:=?_)
     repeat (first|refine wk ?_|refine Zaa (hr:=?_))
     exact Zad (i+1) (a:=⟨by omega,hri⟩)
    ·rw[if_pos hc] at hri
     subst hri
     repeat (first|refine wk ?_|refine Zaa (hr:=?_))
     rw[ZaQ]
     refine Zab [] (hA:=hla) (hr:=?_)
     repeat (first|refine wk ?_|refine Zaa (hr:=?_))
     refine Zab [] (hA:=hck) (hr:=?_)
     repeat (first|refine wk ?_|refine Zaa (hr:=?_))
     exact fin
   ·have hi:i=ss.length:=by omega
    subst hi
    rw[List.drop_length,chnL] at hri
    subst hri
    repeat (first|refine wk ?_|refine Zaa (hr:=?_))
    exact fin
 ·rw[if_pos h0] at hr
  subst hr
  repeat (first|refine wk ?_|refine Zaa (hr:=?_))
  refine Zab [] (hA:=hgc) (hr:=?_)
  repeat (first|refine wk ?_|refine Zaa (hr:=?_))
  exact fin
set_option maxHeartbeats 4000000 in
theorem Zdx {t u v:Bool} {g:Gram} {ss:List Step} (hl:ss.length≤100000000) {t':Bool} (ht':(if ss.length=0 then t else v)=t') :
  ACalls Tryz.prog 16 [.d (ZaH t g),.d (ZaZ u v ss)] [] (.d (ZaH t' (ZaA g ss))) []:=by
 refine ACalls.intro (n:=18) Tryz.func16 rfl rfl (by simp) (by rfl) ?_
 simp only[Zak]
 repeat (first|refine wk ?_|refine Zaa (hr:=?_))
 refine Zai (X:=Nat) (fun i=>i≤ss.length) (fun i=>[(5,I i),(2,.ptr 2 0),(4,.ptr 4 0),(0+1,.d (ZaZ u v ss))]) (fun i=>[(2,Zar (if i=0 then t else v) (ZaA g (ss.take i))),(4,.box 24 [.d (iD 0),.d (iD 0),.d (iD 0),.d nilT])]) (fun i=>ss.length - i) 0 (Nat.zero_le _) ?_
 intro i hi
 by_cases hlt:i < ss.length
 ·have e:=Zf6 g hlt
  repeat (first|refine wk ?_|refine Zaa (hr:=?_))
  refine Zg2 TY rfl Zag rfl (IsElt.stpP hlt) rfl rfl rfl rfl ?_
  repeat (first|refine wk ?_|refine Zaa (hr:=?_))
  refine Zad (i+1) (d:=⟨by rw[e];exact .of rfl,.of rfl,trivial⟩)
 ·have hi:i=ss.length:=by omega
  subst hi
  rw[ht',List.take_length]
  repeat (first|refine wk ?_|refine Zaa (hr:=?_))
  exact fin
end Go.Proofs.YtbpmepgnjanhnaaGreat
