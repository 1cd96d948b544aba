import Derived.Test.YtbpmepgnjanhnaaGreatSimW
import Derived.Test.YtbpmepgnjanhnaaGreatQTab
set_option linter.unusedVariables false
set_option linter.unusedSimpArgs false
set_option linter.unusedSectionVars false
namespace Go.Proofs.YtbpmepgnjanhnaaGreat
open Go.RowKit
theorem wkr {G K:Prop} (hK:K) (h:Bx K→G:=by intro hK;(first|(refine gOp ?_;first|refine Zia (hr:=?_)|refine ZcB (hr:=?_)|(refine ZnB ?_;first|refine Zib TY (hr:=?_)|refine Ze7 TY (hr:=?_)|refine Ze8 TY (hr:=?_)|refine ZdN TY (hr:=?_))|(refine Zie ?_;first|refine ZbU TY (hr:=?_)|refine Zby TY (hr:=?_)|refine Zbz TY (hr:=?_))|(refine Zif ?_;first|refine ZbV TY (hr:=?_)|refine ZbA TY (hr:=?_))|(refine gBin ?_;first|refine Zng (hr:=?_)|refine Znh (hr:=?_)|refine Zni (hr:=?_)|refine Znj (hr:=?_)|refine Znk (hr:=?_)|refine Znl (hr:=?_)|refine Znq (hr:=?_)|refine Znr (hr:=?_)|refine Zns (hr:=?_)|refine Znt (hr:=?_)|refine Znu (hr:=?_)|refine s_or (hr:=?_)|refine Zl3 (hr:=?_)|refine Znv (hr:=?_)|refine Znw (hr:=?_)|refine Znx (hr:=?_)|refine Zny (hr:=?_))|(refine ZnC ?_;first|refine Znm TY (hr:=?_)|refine Zic TY (hr:=?_)|refine Znn TY (hr:=?_)|refine ZdO TY (hr:=?_)|refine Znz (hr:=?_)|refine ZnA (hr:=?_))|(refine ZnD ?_;first|refine Zdg true (hr:=?_)|refine Zdg false (hr:=?_)|refine Zfc (hr:=?_))|(refine gNil ?_;first|refine Zcv (hr:=?_)|refine ZbW (hr:=?_))|(refine Zig ?_;first|refine Ze9 TY (hr:=?_)|refine ZdP TY (hr:=?_))|(refine gUn ?_;first|refine Zno (hr:=?_)|refine Znp (hr:=?_))|refine Znf (hr:=?_)|refine Zfa TY (hr:=?_)|refine ZbB TY (hr:=?_)|refine Zfb TY (hr:=?_)|refine Zda (hr:=?_)|refine Zcw (hr:=?_)|refine Zfd TY (hr:=?_)|refine Zl2 (hr:=?_)|refine ZbX TY (hr:=?_)|refine Zid (hr:=?_))|refine Zdy ?_|refine Zkn ?_|refine Zbm ?_|refine Zcc ?_|refine ZdL ?_|refine ZeZ ?_|refine Ze0 ?_|refine ZdK ?_|refine ZcH ?_|refine Zc6 ?_|refine Zc7 ?_|refine Zc8 ?_|refine ZcI ?_|refine ZbY ?_|refine Zek ?_|refine Zfe ?_|refine Zff ?_);(repeat (first|(refine gOp ?_;first|refine Zia (hr:=?_)|refine ZcB (hr:=?_)|(refine ZnB ?_;first|refine Zib TY (hr:=?_)|refine Ze7 TY (hr:=?_)|refine Ze8 TY (hr:=?_)|refine ZdN TY (hr:=?_))|(refine Zie ?_;first|refine ZbU TY (hr:=?_)|refine Zby TY (hr:=?_)|refine Zbz TY (hr:=?_))|(refine Zif ?_;first|refine ZbV TY (hr:=?_)|refine ZbA TY (hr:=?_))|(refine gBin ?_;first|refine Zng (hr:=?_)|refine Znh (hr:=?_)|refine Zni (hr:=?_)|refine Znj (hr:=?_)|refine Znk (hr:=?_)|refine Znl (hr:=?_)|refine Znq (hr:=?_)|refine Znr (hr:=?_)|refine Zns (hr:=?_)|refine Znt (hr:=?_)|refine Znu (hr:=?_)|refine s_or (hr:=?_)|refine Zl3 (hr:=?_)|refine Znv (hr:=?_)|refine Znw (hr:=?_)|refine Znx (hr:=?_)|refine Zny (hr:=?_))|(refine ZnC ?_;first|refine Znm TY (hr:=?_)|refine Zic TY (hr:=?_)|refine Znn TY (hr:=?_)|refine ZdO TY (hr:=?_)|refine Znz (hr:=?_)|refine ZnA (hr:=?_))|(refine ZnD ?_;first|refine Zdg true (hr:=?_)|refine Zdg false (hr:=?_)|refine Zfc (hr:=?_))|(refine gNil ?_;first|refine Zcv (hr:=?_)|refine ZbW (hr:=?_))|(refine Zig ?_;first|refine Ze9 TY (hr:=?_)|refine ZdP TY (hr:=?_))|(refine gUn ?_;first|refine Zno (hr:=?_)|refine Znp (hr:=?_))|refine Znf (hr:=?_)|refine Zfa TY (hr:=?_)|refine ZbB TY (hr:=?_)|refine Zfb TY (hr:=?_)|refine Zda (hr:=?_)|refine Zcw (hr:=?_)|refine Zfd TY (hr:=?_)|refine Zl2 (hr:=?_)|refine ZbX TY (hr:=?_)|refine Zid (hr:=?_))|refine Zdy ?_|refine Zkn ?_|refine Zbm ?_|refine Zcc ?_|refine ZdL ?_|refine ZeZ ?_|refine Ze0 ?_|refine ZdK ?_|refine ZcH ?_|refine Zc6 ?_|refine Zc7 ?_|refine Zc8 ?_|refine ZcI ?_|refine ZbY ?_|refine Zek ?_|refine Zfe ?_|refine Zff ?_));exact hK.out):G:=h ⟨hK⟩
theorem Zr0:ZdJ Tryz.prog 31 0 2 0:=ZgX Tryz.underlying31 rfl rfl rfl Tryz.underlying3 rfl
theorem Zr1:ZdJ Tryz.prog 31 1 2 1:=ZgX Tryz.underlying31 rfl rfl rfl Tryz.underlying3 rfl
section
variable {P:Program} {n:Nat} {dr:Bool} {ops:Array Oper} {rest:List Oper} {log:List Rec} {K:Exit→Fr→Hp→Prop} {fr:Fr} {h:Hp}
variable {d:Nat} {ty:TypeId} {pos:String} {after:Array Edge} {g:Option (Nat×Bool)}
theorem Zaa {x:Operand} {st f m fo:Nat} {v c:V} {cs:List V} (hdn:Nat.blt d n=true:=by exact rfl) (hg:gOk ops fr g:=by first|exact Zag|exact Zae rfl rfl rfl|(apply Zae rfl rfl;(first|assumption|exact rfl|exact decide_eq_true rfl|exact congrArg not (decide_eq_true rfl)|((try simp only[decide_eq_true_eq,decide_eq_false_iff_not,Bool.not_true,Bool.not_false,Bool.not_eq_true',Bool.not_eq_false',Bool.not_not,Int.not_lt,Int.not_le,Bool.and_eq_true,Bool.or_eq_true,Bool.and_eq_false_iff,Bool.or_eq_false_iff]);first|assumption|omega)))) (hF:ZdJ P st f m fo:=by first|exact Zr0|exact Zr1) (hx:oev fr x=v:=by conv=>lhs;whnf) (h1:Zaz x=true:=by exact rfl) (hv:Zrv v=true:=by exact rfl) (hcs:v.cellsOf=some cs:=by exact rfl) (hm:cs.length=m:=by exact rfl) (hc:cs[fo]?=some c:=by exact rfl) (hr:dops P n dr ops rest (⟨(gIns ops g++Zay x v).map Prod.fst,[d],[],[]⟩::log) K ((d,c)::fr) h):dops P n dr ops (⟨some d,.field st x f,ty,pos,after,g⟩::rest) log K fr h :=
 Zu1 hdn hg hF hx h1 hv hcs hm hc hr
end
section
variable {P:Program} {n:Nat} {Q:Exit→Fr→Hp→Prop} {K:Exit→Fr→Hp→Prop} {fr:Fr} {h:Hp}
theorem Zr2 {id c d e st yt cty ty:Nat} {x:Operand} {t:Bool} {sz:Nat} {xs:List D} {pos1 pos2:String} {af1 af2:Array Edge} (hT:xs=[]→Q .normal ((d,B true)::(c,.d (.sl t sz xs))::fr) h) (hF:Q .normal ((d,B false)::(c,.d (.sl t sz xs))::fr) h) (hu:Tryz.prog.underlying st=some (.slice e)) (hcn:Nat.blt c n=true:=by exact rfl) (hdn:Nat.blt d n=true:=by exact rfl) (hx:oev fr x=.d (.sl t sz xs):=by exact rfl) :
  aw Tryz.prog n (.region id #[⟨some c,.move x,cty,pos1,af1,none⟩,⟨some d,.binOp .eql st (.tmp c) (.const (.slice none 0 0)) yt,ty,pos2,af2,none⟩] false) Q fr h:=ZtN hcn hdn hx hu hT hF
theorem finx {G:Prop} (h:G:=by (try refine Fin.norm ?_);first|exact Fin.r1 rfl (.of_tmp rfl) (Zwf (by first|exact rfl|(simp;done)|omega|assumption|exact e|(simp[e];done))) (by repeat' (first|exact trivial|exact VLe.refl _|exact HElt.of rfl|assumption|exact HLe.append_left (by assumption)|exact HLe.of_self (by assumption)|(refine And.intro ?_ ?_)|(refine Zce rfl ?_;first|exact rfl|assumption|omega|exact e|exact e.symm|(simp only[e];done)|(simp[e,iD,bD,sD];done)|(simp[e];omega)|(simp;done)|(simp;omega))|(refine Zcf rfl ?_;first|exact rfl|assumption|omega|exact e|exact e.symm|(simp only[e];done)|(simp[e,iD,bD,sD];done)|(simp[e];omega)|(simp;done)|(simp;omega))|(refine Zb4 rfl ?_;first|exact rfl|assumption|omega|exact e|exact e.symm|(simp only[e];done)|(simp[e,iD,bD,sD];done)|(simp[e];omega)|(simp;done)|(simp;omega))|(refine Zch rfl ?_;first|exact rfl|assumption|omega|exact e|exact e.symm|(simp only[e];done)|(simp[e,iD,bD,sD];done)|(simp[e];omega)|(simp;done)|(simp;omega))|(refine Zbk rfl ?_;first|exact rfl|assumption|omega|exact e|exact e.symm|(simp only[e];done)|(simp[e,iD,bD,sD];done)|(simp[e];omega)|(simp;done)|(simp;omega))|(refine ZdR rfl ?_;first|exact rfl|assumption|omega|exact e|exact e.symm|(simp only[e];done)|(simp[e,iD,bD,sD];done)|(simp[e];omega)|(simp;done)|(simp;omega))|(refine ZdS rfl ?_;first|exact rfl|assumption|omega|exact e|exact e.symm|(simp only[e];done)|(simp[e,iD,bD,sD];done)|(simp[e];omega)|(simp;done)|(simp;omega))|(refine Zcl rfl ?_;first|exact rfl|assumption|omega|exact e|exact e.symm|(simp only[e];done)|(simp[e,iD,bD,sD];done)|(simp[e];omega)|(simp;done)|(simp;omega))|exact Zci _ _ rfl|(refine Zcg rfl ?_;(repeat' (first|exact DLes.refl _|exact DLes.nil|exact DLe.refl _|exact DLe.nil _ _|assumption|exact e|refine DLes.cons ?_ ?_|refine DLe.agg ?_|refine DLe.sl ?_|(apply DLes.snoc;(first|assumption|exact e|exact e.symm))));done)|(refine Zck rfl ?_;(repeat' (first|exact DLes.refl _|exact DLes.nil|exact DLe.refl _|exact DLe.nil _ _|assumption|exact e|refine DLes.cons ?_ ?_|refine DLe.agg ?_|refine DLe.sl ?_|(apply DLes.snoc;(first|assumption|exact e|exact e.symm))));done)|(refine Zcj rfl ?_;(repeat' (first|exact DLes.refl _|exact DLes.nil|exact DLe.refl _|exact DLe.nil _ _|assumption|exact e|refine DLes.cons ?_ ?_|refine DLe.agg ?_|refine DLe.sl ?_|(apply DLes.snoc;(first|assumption|exact e|exact e.symm))));done)|(refine Zcm rfl ?_;(repeat' (first|exact VLes.refl _|refine And.intro ?_ ?_|exact trivial|exact VLe.refl _|exact VLe.nil _ _));done))) (by first|exact rfl|(simp[frIn,hpIn,V.inside,V.insides, *];done))|exact Fin.r1 rfl (.of_tmp rfl) (by repeat' (first|exact trivial|(refine⟨?_,?_⟩)|exact Co.refl _|exact Co.froz rfl rfl|exact Co.froz rfl (by simp)|exact Co.nil _ _|exact Co.nil false _)) (by repeat' (first|exact trivial|exact VLe.refl _|exact HElt.of rfl|assumption|exact HLe.append_left (by assumption)|exact HLe.of_self (by assumption)|(refine And.intro ?_ ?_)|(refine Zce rfl ?_;first|exact rfl|assumption|omega|exact e|exact e.symm|(simp only[e];done)|(simp[e,iD,bD,sD];done)|(simp[e];omega)|(simp;done)|(simp;omega))|(refine Zcf rfl ?_;first|exact rfl|assumption|omega|exact e|exact e.symm|(simp only[e];done)|(simp[e,iD,bD,sD];done)|(simp[e];omega)|(simp;done)|(simp;omega))|(refine Zb4 rfl ?_;first|exact rfl|assumption|omega|exact e|exact e.symm|(simp only[e];done)|(simp[e,iD,bD,sD];done)|(simp[e];omega)|(simp;done)|(simp;omega))|(refine Zch rfl ?_;first|exact rfl|assumption|omega|exact e|exact e.symm|(simp only[e];done)|(simp[e,iD,bD,sD];done)|(simp[e];omega)|(simp;done)|(simp;omega))|(refine Zbk rfl ?_;first|exact rfl|assumption|omega|exact e|exact e.symm|(simp only[e];done)|(simp[e,iD,bD,sD];done)|(simp[e];omega)|(simp;done)|(simp;omega))|(refine ZdR rfl ?_;first|exact rfl|assumption|omega|exact e|exact e.symm|(simp only[e];done)|(simp[e,iD,bD,sD];done)|(simp[e];omega)|(simp;done)|(simp;omega))|(refine ZdS rfl ?_;first|exact rfl|assumption|omega|exact e|exact e.symm|(simp only[e];done)|(simp[e,iD,bD,sD];done)|(simp[e];omega)|(simp;done)|(simp;omega))|(refine Zcl rfl ?_;first|exact rfl|assumption|omega|exact e|exact e.symm|(simp only[e];done)|(simp[e,iD,bD,sD];done)|(simp[e];omega)|(simp;done)|(simp;omega))|exact Zci _ _ rfl|(refine Zcg rfl ?_;(repeat' (first|exact DLes.refl _|exact DLes.nil|exact DLe.refl _|exact DLe.nil _ _|assumption|exact e|refine DLes.cons ?_ ?_|refine DLe.agg ?_|refine DLe.sl ?_|(apply DLes.snoc;(first|assumption|exact e|exact e.symm))));done)|(refine Zck rfl ?_;(repeat' (first|exact DLes.refl _|exact DLes.nil|exact DLe.refl _|exact DLe.nil _ _|assumption|exact e|refine DLes.cons ?_ ?_|refine DLe.agg ?_|refine DLe.sl ?_|(apply DLes.snoc;(first|assumption|exact e|exact e.symm))));done)|(refine Zcj rfl ?_;(repeat' (first|exact DLes.refl _|exact DLes.nil|exact DLe.refl _|exact DLe.nil _ _|assumption|exact e|refine DLes.cons ?_ ?_|refine DLe.agg ?_|refine DLe.sl ?_|(apply DLes.snoc;(first|assumption|exact e|exact e.symm))));done)|(refine Zcm rfl ?_;(repeat' (first|exact VLes.refl _|refine And.intro ?_ ?_|exact trivial|exact VLe.refl _|exact VLe.nil _ _));done))) (by first|exact rfl|(simp[frIn,hpIn,V.inside,V.insides, *];done))|exact Fin.r0 rfl (by repeat' (first|exact trivial|exact VLe.refl _|exact HElt.of rfl|assumption|exact HLe.append_left (by assumption)|exact HLe.of_self (by assumption)|(refine And.intro ?_ ?_)|(refine Zce rfl ?_;first|exact rfl|assumption|omega|exact e|exact e.symm|(simp only[e];done)|(simp[e,iD,bD,sD];done)|(simp[e];omega)|(simp;done)|(simp;omega))|(refine Zcf rfl ?_;first|exact rfl|assumption|omega|exact e|exact e.symm|(simp only[e];done)|(simp[e,iD,bD,sD];done)|(simp[e];omega)|(simp;done)|(simp;omega))|(refine Zb4 rfl ?_;first|exact rfl|assumption|omega|exact e|exact e.symm|(simp only[e];done)|(simp[e,iD,bD,sD];done)|(simp[e];omega)|(simp;done)|(simp;omega))|(refine Zch rfl ?_;first|exact rfl|assumption|omega|exact e|exact e.symm|(simp only[e];done)|(simp[e,iD,bD,sD];done)|(simp[e];omega)|(simp;done)|(simp;omega))|(refine Zbk rfl ?_;first|exact rfl|assumption|omega|exact e|exact e.symm|(simp only[e];done)|(simp[e,iD,bD,sD];done)|(simp[e];omega)|(simp;done)|(simp;omega))|(refine ZdR rfl ?_;first|exact rfl|assumption|omega|exact e|exact e.symm|(simp only[e];done)|(simp[e,iD,bD,sD];done)|(simp[e];omega)|(simp;done)|(simp;omega))|(refine ZdS rfl ?_;first|exact rfl|assumption|omega|exact e|exact e.symm|(simp only[e];done)|(simp[e,iD,bD,sD];done)|(simp[e];omega)|(simp;done)|(simp;omega))|(refine Zcl rfl ?_;first|exact rfl|assumption|omega|exact e|exact e.symm|(simp only[e];done)|(simp[e,iD,bD,sD];done)|(simp[e];omega)|(simp;done)|(simp;omega))|exact Zci _ _ rfl|(refine Zcg rfl ?_;(repeat' (first|exact DLes.refl _|exact DLes.nil|exact DLe.refl _|exact DLe.nil _ _|assumption|exact e|refine DLes.cons ?_ ?_|refine DLe.agg ?_|refine DLe.sl ?_|(apply DLes.snoc;(first|assumption|exact e|exact e.symm))));done)|(refine Zck rfl ?_;(repeat' (first|exact DLes.refl _|exact DLes.nil|exact DLe.refl _|exact DLe.nil _ _|assumption|exact e|refine DLes.cons ?_ ?_|refine DLe.agg ?_|refine DLe.sl ?_|(apply DLes.snoc;(first|assumption|exact e|exact e.symm))));done)|(refine Zcj rfl ?_;(repeat' (first|exact DLes.refl _|exact DLes.nil|exact DLe.refl _|exact DLe.nil _ _|assumption|exact e|refine DLes.cons ?_ ?_|refine DLe.agg ?_|refine DLe.sl ?_|(apply DLes.snoc;(first|assumption|exact e|exact e.symm))));done)|(refine Zcm rfl ?_;(repeat' (first|exact VLes.refl _|refine And.intro ?_ ?_|exact trivial|exact VLe.refl _|exact VLe.nil _ _));done))) (by first|exact rfl|(simp[frIn,hpIn,V.inside,V.insides, *];done))):G:=h
theorem fin2 {G:Prop} (h:G:=by (try refine Fin.norm ?_);exact Fin.r2 rfl (.aggT TY rfl rfl rfl rfl rfl) (.aggT TY rfl rfl rfl rfl rfl) (Co.tup (by repeat' (first|exact trivial|(refine⟨?_,?_⟩)|exact Co.refl _|exact Co.froz rfl rfl|exact Co.froz rfl (by simp)|exact Co.nil _ _|exact Co.nil false _|exact Co.agg (Cos.refl _)|(refine Co.agg ?_)))) (by repeat' (first|exact trivial|exact VLe.refl _|exact HElt.of rfl|assumption|exact HLe.append_left (by assumption)|exact HLe.of_self (by assumption)|(refine And.intro ?_ ?_)|(refine Zce rfl ?_;first|exact rfl|assumption|omega|exact e|exact e.symm|(simp only[e];done)|(simp[e,iD,bD,sD];done)|(simp[e];omega)|(simp;done)|(simp;omega))|(refine Zcf rfl ?_;first|exact rfl|assumption|omega|exact e|exact e.symm|(simp only[e];done)|(simp[e,iD,bD,sD];done)|(simp[e];omega)|(simp;done)|(simp;omega))|(refine Zb4 rfl ?_;first|exact rfl|assumption|omega|exact e|exact e.symm|(simp only[e];done)|(simp[e,iD,bD,sD];done)|(simp[e];omega)|(simp;done)|(simp;omega))|(refine Zch rfl ?_;first|exact rfl|assumption|omega|exact e|exact e.symm|(simp only[e];done)|(simp[e,iD,bD,sD];done)|(simp[e];omega)|(simp;done)|(simp;omega))|(refine Zbk rfl ?_;first|exact rfl|assumption|omega|exact e|exact e.symm|(simp only[e];done)|(simp[e,iD,bD,sD];done)|(simp[e];omega)|(simp;done)|(simp;omega))|(refine ZdR rfl ?_;first|exact rfl|assumption|omega|exact e|exact e.symm|(simp only[e];done)|(simp[e,iD,bD,sD];done)|(simp[e];omega)|(simp;done)|(simp;omega))|(refine ZdS rfl ?_;first|exact rfl|assumption|omega|exact e|exact e.symm|(simp only[e];done)|(simp[e,iD,bD,sD];done)|(simp[e];omega)|(simp;done)|(simp;omega))|(refine Zcl rfl ?_;first|exact rfl|assumption|omega|exact e|exact e.symm|(simp only[e];done)|(simp[e,iD,bD,sD];done)|(simp[e];omega)|(simp;done)|(simp;omega))|exact Zci _ _ rfl|(refine Zcg rfl ?_;(repeat' (first|exact DLes.refl _|exact DLes.nil|exact DLe.refl _|exact DLe.nil _ _|assumption|exact e|refine DLes.cons ?_ ?_|refine DLe.agg ?_|refine DLe.sl ?_|(apply DLes.snoc;(first|assumption|exact e|exact e.symm))));done)|(refine Zck rfl ?_;(repeat' (first|exact DLes.refl _|exact DLes.nil|exact DLe.refl _|exact DLe.nil _ _|assumption|exact e|refine DLes.cons ?_ ?_|refine DLe.agg ?_|refine DLe.sl ?_|(apply DLes.snoc;(first|assumption|exact e|exact e.symm))));done)|(refine Zcj rfl ?_;(repeat' (first|exact DLes.refl _|exact DLes.nil|exact DLe.refl _|exact DLe.nil _ _|assumption|exact e|refine DLes.cons ?_ ?_|refine DLe.agg ?_|refine DLe.sl ?_|(apply DLes.snoc;(first|assumption|exact e|exact e.symm))));done)|(refine Zcm rfl ?_;(repeat' (first|exact VLes.refl _|refine And.intro ?_ ?_|exact trivial|exact VLe.refl _|exact VLe.nil _ _));done))) rfl):G:=h
end
end Go.Proofs.YtbpmepgnjanhnaaGreat
namespace Go.Proofs.YtbpmepgnjanhnaaGreat
open Go.RowKit
theorem RowAt.slide {M:Bars} {w:World} {e sz cap lo:Nat} {ba:Option Addr} {xs:List D} (h:RowAt M w e sz (.slice ba xs.length cap) xs) (hl:lo≤xs.length) :
  RowAt M w e sz (.slice (if cap=lo then ba else ba.map (·.add (lo * sz))) (xs.length - lo) (cap - lo)) (xs.drop lo):=by
 obtain⟨h0,h1⟩:=h
 refine⟨fun x hx=>h0 x (List.mem_of_mem_drop hx),?_⟩
 rcases h1 with ⟨a,h1,rfl⟩|⟨g,off,cap',cur,h1,h2,h3,h4,h5,h6,h7⟩
 ·simp only[List.length_nil,Value.slice.injEq,true_and] at h1
  obtain⟨rfl,rfl⟩:=h1
  obtain rfl:lo=0:=by simpa using hl
  exact .inl ⟨ba,by simp⟩
 ·simp only[Value.slice.injEq,true_and] at h1
  obtain⟨rfl,rfl⟩:=h1
  by_cases hc:cap=lo
  ·refine .inl ⟨some ⟨g,off,none⟩,?_,List.drop_of_length_le (by omega)⟩
   rw[if_pos hc,show xs.length - lo=0 by omega,show cap - lo=0 by omega]
  ·have e1:(cap - lo) * sz+lo * sz=cap * sz:=by rw[←Nat.add_mul];congr 1;omega
   have e2:(xs.length - lo) * sz+lo * sz=xs.length * sz:=by rw[←Nat.add_mul];congr 1;omega
   refine .inr ⟨g,off+lo * sz,cap - lo,cur,?_,by omega,h3,by simp;omega,by omega,by omega,?_⟩
   ·rw[if_neg hc];simp[Addr.add_mid]
   ·have hz:D.sizes (xs.take lo)=lo * sz:=by rw[D.sizes_eq (sz:=sz) (fun x hx=>h0 x (List.mem_of_mem_take hx)),List.length_take,Nat.min_eq_left hl]
    have h8:=(D.Reps.split (xs:=xs.take lo) (ys:=xs.drop lo) (by rw[List.take_append_drop];exact h7)).2
    rw[hz,List.drop_take,List.drop_drop] at h8
    rw[List.length_drop,show (xs.length - lo) * sz=xs.length * sz - lo * sz by omega]
    exact h8
section
variable {G:Ctx} {E:Env} {fr:Fr} {h:Hp} {a:Act} {w:World}
theorem Conc.takeOver (C:Conc G E fr h a w) {k k':Nat} {e sz:Nat} {xs xs':List D} {v':Value} (hk:hget h k=some (.row e sz xs)) (hk':hget h k'=none) (hlow:k' < 1000)
  (hr:∀ M,RowAt M w e sz (E.row k) xs→RowAt M w e sz v' xs') (hb:∀ b,obOf v'=some b→obOf (E.row k)=some b) :
  Conc G ⟨E.blk,fun j=>if j=k' then v' else E.row j,E.fp⟩ fr ((k',.row e sz xs')::(k,.dead xs.length)::h) a w:=by
 have hne:k≠k':=by rintro rfl;rw[hk] at hk';cases hk'
 have hg1:hget ((k',.row e sz xs')::(k,.dead xs.length)::h) k'=some (.row e sz xs'):=Zaf _ _ _
 have hg2:hget ((k',.row e sz xs')::(k,.dead xs.length)::h) k=some (.dead xs.length):=by rw[Zap _ _ hne.symm,Zaf]
 have hg3:∀ j,j≠k→j≠k'→hget ((k',.row e sz xs')::(k,.dead xs.length)::h) j=hget h j:=fun j h1 h2=>by rw[Zap _ _ h2.symm,Zap _ _ h1.symm]
 generalize ((k',.row e sz xs')::(k,.dead xs.length)::h:Hp)=h2 at hg1 hg2 hg3 ⊢
 have hmono:∀ j,(hget h j).isSome=true→(hget h2 j).isSome=true:=fun j hj=>by
  by_cases e1:j=k
  ·subst e1;rw[hg2];rfl
  ·by_cases e2:j=k'
   ·subst e2;rw[hg1];rfl
   ·rw[hg3 j e1 e2];exact hj
 have hblk:∀ j b,blkOf ⟨E.blk,fun j=>if j=k' then v' else E.row j,E.fp⟩ h2 j b→(j=k'∧blkOf E h k b)∨(j≠k∧j≠k'∧blkOf E h j b):=fun j b hj=>by
  by_cases e2:j=k'
  ·subst e2
   refine .inl ⟨rfl,?_⟩
   unfold blkOf at hj ⊢
   rw[hg1] at hj
   rw[hk]
   exact hb b (by simpa using hj)
  ·by_cases e1:j=k
   ·subst e1;unfold blkOf at hj;rw[hg2] at hj;cases hj
   ·refine .inr ⟨e1,e2,?_⟩
    unfold blkOf at hj ⊢
    rw[hg3 j e1 e2] at hj
    simpa[e2] using hj
 have hlive:∀ b,Live ⟨E.blk,fun j=>if j=k' then v' else E.row j,E.fp⟩ h2 b→Live E h b:=fun b ⟨j,hj⟩=>by
  rcases hblk j b hj with ⟨_,h1⟩|⟨_,_,h1⟩
  ·exact⟨k,h1⟩
  ·exact⟨j,h1⟩
 have T:Trans E h (bars E h G.o) w ⟨E.blk,fun j=>if j=k' then v' else E.row j,E.fp⟩ h2 (bars ⟨E.blk,fun j=>if j=k' then v' else E.row j,E.fp⟩ h2 G.o) w:=by
  refine⟨fun _ _ _=>rfl,fun j _ m hv=>?_,fun j hj s n hv=>?_,fun t b _ hm=>⟨rfl,?_⟩,Nat.le_refl _⟩
  ·by_cases e1:j=k
   ·subst e1
    refine⟨m,.inr (.inr (.inl ?_)),Nat.le_refl _,fun _=>by simp[hne]⟩
    rw[hg2]
    rcases hv with ⟨_,_,_,h1,h2⟩|⟨_,_,h1,_⟩|h1|⟨_,_,_,_,h1,_⟩ <;> rw[hk] at h1 <;> cases h1
    rw[h2]
   ·by_cases e2:j=k'
    ·subst e2
     exfalso
     rcases hv with ⟨_,_,_,h1,_⟩|⟨_,_,h1,_⟩|h1|⟨_,_,_,_,h1,_⟩ <;> rw[hk'] at h1 <;> cases h1
    ·exact⟨m,by unfold verAny;rw[hg3 j e1 e2];exact hv,Nat.le_refl _,fun _=>by simp[e2]⟩
  ·by_cases e1:j=k
   ·subst e1;rcases hv with ⟨_,_,h1,_⟩|⟨_,_,_,_,h1,_⟩ <;> (rw[hg2] at h1;cases h1)
   ·by_cases e2:j=k'
    ·subst e2;rw[hk'] at hj;cases hj
    ·exact⟨n,by unfold verRow at hv ⊢;rw[hg3 j e1 e2] at hv;exact hv⟩
  ·rintro (hl|ho)
   ·exact hm (.inl (hlive b hl))
   ·exact hm (.inr ho)
 refine⟨C.size,C.defers,fun i=>(C.frame i).move T (C.closed i) (fun j hj=>hmono j (C.closed i j hj)),⟨fun j ob hj=>?_,fun j j' b h1 h2=>?_,fun j ob hj i hi=>?_⟩,fun i j hj=>hmono j (C.closed i j hj),C.ext,fun j b hj=>?_,fun j hj hs=>?_,C.outer,C.sub⟩
 ·by_cases e2:j=k'
  ·subst e2
   rw[hg1] at hj;cases hj
   simp only[ObRep,if_true]
   have:=C.heap.obs k _ hk
   simp only[ObRep] at this
   exact hr _ (this.move T.carry (fun _ _=>rfl))
  ·by_cases e1:j=k
   ·subst e1;rw[hg2] at hj;cases hj;trivial
   ·rw[hg3 j e1 e2] at hj
    have hr':=C.heap.obs j _ hj
    exact hr'.move T hj rfl (by simp only[if_neg e2]) rfl (fun _ _=>rfl) (C.heap.closed j _ hj) (fun i hi=>hmono i (C.heap.closed j _ hj i hi))
 ·rcases hblk j b h1 with ⟨rfl,a1⟩|⟨n1,n2,a1⟩ <;> rcases hblk j' b h2 with ⟨rfl,a2⟩|⟨n3,n4,a2⟩
  ·rfl
  ·exact absurd (C.heap.apart k j' b a1 a2) (Ne.symm n3)
  ·exact absurd (C.heap.apart j k b a1 a2) n1
  ·exact C.heap.apart j j' b a1 a2
 ·by_cases e2:j=k'
  ·subst e2;rw[hg1] at hj;cases hj;simp[Ob.keys] at hi
  ·by_cases e1:j=k
   ·subst e1;rw[hg2] at hj;cases hj;simp[Ob.keys] at hi
   ·rw[hg3 j e1 e2] at hj;exact hmono i (C.heap.closed j _ hj i hi)
 ·rcases hblk j b hj with ⟨_,h1⟩|⟨_,_,h1⟩
  ·exact C.fresh k b h1
  ·exact C.fresh j b h1
 ·have e2:j≠k':=by omega
  have hold:(hget h j).isSome=true:=by
   by_cases e1:j=k
   ·subst e1;rw[hk];rfl
   ·rw[hg3 j e1 e2] at hs;exact hs
  obtain⟨g0,g1,g2,g3⟩:=C.keep j hj hold
  refine⟨g0,g1,fun m hm=>?_,fun s n hv=>?_⟩
  ·obtain⟨m1,k1,k2,k3⟩:=g2 m hm
   obtain⟨m2,l1,l2,l3⟩:=T.ver j (hmono j hold) m1 k1
   exact⟨m2,l1,by omega,fun e=>(l3 (by omega)).trans (k3 (by omega))⟩
  ·obtain⟨m,hm⟩:=T.verR j hold s n hv
   exact g3 s m hm
end
section
variable {P:Program} {n:Nat} {Q:Exit→Fr→Hp→Prop} {fr:Fr} {h:Hp}
theorem Zvi {c:Code} (i k':Nat) {k m e sz:Nat} {xs:List D} (hi:fget fr i=.own k m) (hk:hget h k=some (.row e sz xs)) (hm:xs.length=m) (hk':hget h k'=none) (hlow:Nat.blt k' 1000=true)
  (hc:aw P n c Q ((i,.own k' m)::fr) ((k',.row e sz xs)::(k,.dead m)::h)):aw P n c Q fr h:=by
 intro G E a w hn C
 subst hm
 have hne:k≠k':=by rintro rfl;rw[hk] at hk';cases hk'
 have C':=C.takeOver (v':=E.row k) (xs':=xs) hk hk' (by simpa[Nat.blt_eq] using hlow) (fun _ h=>h) (fun _ h=>h)
 refine hc G _ a w hn ⟨C'.size,C'.defers,fun j=>?_,C'.heap,fun j=>?_,C'.ext,C'.fresh,C'.keep,C'.outer,C'.sub⟩
 ·by_cases e1:i=j
  ·subst e1
   rw[ZaM]
   have hf:=C.frame i
   rw[hi] at hf
   simp only[V.Rep] at hf ⊢
   obtain⟨m,h1,h2,h3,h4⟩:=hf
   have:=Zax h1 (.inl ⟨_,_,_,hk,rfl⟩)
   exact⟨xs.length,.inl ⟨_,_,_,Zaf _ _ _,rfl⟩,Nat.le_refl _,h3,fun _=>by simp only[if_true];exact h4 this.symm⟩
  ·rw[ZaI _ _ e1];exact C'.frame j
 ·by_cases e1:i=j
  ·subst e1;rw[ZaM];intro q hq;simp[V.keys] at hq;subst hq;rw[Zaf];rfl
  ·rw[ZaI _ _ e1];exact C'.closed j
end
section
variable {P:Program} {n:Nat} {dr:Bool} {ops:Array Oper} {rest:List Oper} {log:List Rec} {K:Exit→Fr→Hp→Prop} {fr:Fr} {h:Hp}
variable {d:Nat} {ty:TypeId} {pos:String} {after:Array Edge} {g:Option (Nat×Bool)}
variable (T:TT P)
theorem Zvj (k':Nat) {x:Operand} {xl:Option Operand} {t e k m et sz lo:Nat} {xs:List D} {y ye:Ty} (hdn:Nat.blt d n=true) (hg:gOk ops fr g) (hx:oev fr x=.own k m) (hk:hget h k=some (.row et sz xs)) (hm:xs.length=m) (hk':hget h k'=none) (hlow:Nat.blt k' 1000=true)
  (hl:Znb fr xl 0 lo) (h2:lo≤m) (ht:T.rows[t]?=some y) (hel:y.elem=some e) (hte:T.rows[e]?=some ye) (hsz:Nat.beq ye.size sz=true)
  (hr:dops P n dr ops rest (⟨(gIns ops g++(Zay x (.own k m)++Zeh xl lo)).map Prod.fst,[d],[k,k'],[k',k]⟩::log) K ((d,.own k' (m - lo))::fr) ((k',.row et sz (xs.drop lo))::(k,.dead m)::h)):dops P n dr ops (⟨some d,.slice t x xl none none,ty,pos,after,g⟩::rest) log K fr h:=by
 subst hm
 have hne:k≠k':=by rintro rfl;rw[hk] at hk';cases hk'
 refine Zav (ins:=gIns ops g++(Zay x (.own k xs.length)++Zeh xl lo)) (objs:=[(k,some (.row et sz xs)),(k',none)]) (v:=.own k' (xs.length - lo)) (upd:=[(k',.row et sz (xs.drop lo)),(k,.dead xs.length)]) (LStep.updV rfl hdn rfl hg _ _ _ _ fun G E fr' h' a w C hi' ho=>?_) (ZbN hg (fun p hp=>?_)) (by simp[hk,hk']) hr
 ·simp only[List.mem_append] at hi'
  have hk1:hget h' k=some (.row et sz xs):=ho (k,_) (by simp)
  have hk2:hget h' k'=none:=ho (k',_) (by simp)
  obtain⟨r,_⟩:=C.oev (Zcb hx (fun p hp=>hi' p (.inl hp))) (Zao (Zaj hx rfl))
  have b1:=Znc C hl (fun p hp=>hi' p (.inr hp))
  simp only[V.Rep] at r
  obtain⟨m,v1,v2,v3,v4⟩:=r
  have e1:=Zax v1 (.inl ⟨_,_,_,hk1,rfl⟩)
  have hev:=v4 e1.symm
  have hrow:=C.heap.obs k _ hk1
  simp only[ObRep] at hrow
  obtain⟨ba,cap,hsh,hc1,hc2⟩:=hrow.shape
  have hs:=Nat.eq_of_beq_eq_true hsz
  have hrun:=Zjx T ht hel hte (ba:=ba) (len:=xs.length) (cap:=cap) (lo:=lo) (hi:=xs.length) (kl:=.i64) (kh:=.i64) (xl.map a.eval) none b1 (.inl ⟨rfl,rfl⟩) h2 hc1 w
  rw[hs] at hrun
  have C':=C.takeOver (v':=.slice (if cap=lo then ba else ba.map (·.add (lo * sz))) (xs.length - lo) (cap - lo)) (xs':=xs.drop lo) hk1 hk2 (by simpa[Nat.blt_eq] using hlow) (fun M hM=>by rw[hsh] at hM;exact hM.slide h2) (fun b hb=>by
   rw[hsh]
   by_cases hcl:cap=lo
   ·rw[if_pos hcl] at hb
    cases ba with
    | none=>simp[obOf] at hb
    | some ad=>simp only[obOf] at hb;rw[if_pos (by omega)] at hb;cases hb
   ·rw[if_neg hcl] at hb
    cases ba with
    | none=>simp[obOf] at hb
    | some ad =>
     simp only[obOf,Option.map_some] at hb ⊢
     rw[if_neg (by omega)] at hb
     rw[if_neg (by omega)]
     rw[←hb]
     simp only[Addr.add]
     split <;> rfl)
  refine⟨.slice (if cap=lo then ba else ba.map (·.add (lo * sz))) (xs.length - lo) (cap - lo),_,w,?_,C',?_,fun q hq=>?_⟩
  ·simp only[execOp,hev,hsh,Option.map_none,Sem.run_bind,hrun,Result.andThen_ok,Sem.run_pure]
  ·simp only[V.Rep]
   exact⟨xs.length - lo,.inl ⟨_,_,_,Zaf _ _ _,by simp⟩,Nat.le_refl _,by simp[Value.oneCell'],fun _=>by simp only[if_true]⟩
  ·simp[V.keys] at hq;subst hq
   show (hget ((q,Ob.row et sz (xs.drop lo))::(k,.dead xs.length)::h') q).isSome=true
   rw[Zaf];rfl
 ·simp only[List.mem_append] at hp
  rcases hp with hp|hp
  ·exact Zbj hx p hp
  ·exact Zh6 hl p hp
end
section
variable {P:Program} {n:Nat} {dr:Bool} {ops:Array Oper} {rest:List Oper} {log:List Rec} {K:Exit→Fr→Hp→Prop} {fr:Fr} {h:Hp}
variable {ty:TypeId} {pos:String} {after:Array Edge}
theorem LStep.skipU {PS:List PanicEntry→Fr→Hp→Prop} {o:Oper} {j:Nat} {want:Bool} {s:Nat} {v:V} (hd:∀ d,o.dst=some d→Nat.blt d n=true) (hg:o.guard=some (j,want)) (hs:(ops[j]?).bind (·.dst)=some s) (hv:v=.tup []∨v=B !want):LStep P n ops PS o [(s,v)] [] (.tup []) []:=by
 intro G E fr' h' a w K Q hPan hn C hi _ hK
 have hf:=C.frame s
 rw[hi (s,v) (by simp)] at hf
 have hw:¬ Region.wanted o (yielded ops a.tmps)=true:=by
  unfold Region.wanted yielded
  rw[hg]
  simp only[hs,Option.bind_some]
  rcases hv with rfl|rfl
  ·simp only[V.Rep] at hf
   obtain⟨us,h1,h2⟩:=hf
   simp only[V.Reps] at h2
   subst h2
   simp only[Array.getD_eq_getD_getElem?] at h1
   cases hb:a.tmps[s]? with
   | none=>simp
   | some u=>rw[hb] at h1;simp at h1;subst h1;simp
  ·simp only[V.Rep,D.RepV,D.Rep,List.cons.injEq,and_true] at hf
   have:=hf.1
   simp only[Array.getD_eq_getD_getElem?] at this
   cases hb:a.tmps[s]? with
   | none=>simp
   | some u=>rw[hb] at this;simp at this;subst this;cases want <;> simp
 unfold wpS
 rw[if_neg hw]
 refine hK E _ w ?_
 cases hdd:o.dst with
 | none=>exact C
 | some d=>exact C.put (by rw[hn];simpa[Nat.blt_eq] using hd d hdd) (by simp only[V.Rep];exact⟨[],rfl,by simp[V.Reps]⟩) (by simp[V.keys,V.keyss])
theorem Zr3 {dst:Option Tmp} {op:Op} {j:Nat} {want:Bool} {s:Nat} {b:Bool} (hs:(ops[j]?).bind (·.dst)=some s:=by exact rfl) (hb:fget fr s=.d (.raw (.bool b)):=by exact rfl) (hbw:b=!want:=by first|assumption|exact rfl|exact decide_eq_true rfl|exact congrArg not (decide_eq_true rfl)|((try simp only[decide_eq_true_eq,decide_eq_false_iff_not,Bool.not_true,Bool.not_false,Bool.not_eq_true',Bool.not_eq_false',Bool.not_not,Int.not_lt,Int.not_le,Bool.and_eq_true,Bool.or_eq_true,Bool.and_eq_false_iff,Bool.or_eq_false_iff]);first|assumption|omega)) (hd:∀ d,dst=some d→Nat.blt d n=true:=by simp) (hr:dops P n dr ops rest (⟨[s],dst.toList,[],[]⟩::log) K (dput dst (.tup []) fr) h):dops P n dr ops (⟨dst,op,ty,pos,after,some (j,want)⟩::rest) log K fr h :=
 Zav (ins:=[(s,.d (.raw (.bool !want)))]) (objs:=[]) (LStep.skipU hd rfl hs (.inr rfl)) (by simp;rw[hb,hbw]) (by simp) hr
theorem Zr4 {dst:Option Tmp} {op:Op} {j:Nat} {want:Bool} {s:Nat} (hs:(ops[j]?).bind (·.dst)=some s:=by exact rfl) (hb:fget fr s=.tup []:=by exact rfl) (hd:∀ d,dst=some d→Nat.blt d n=true:=by simp) (hr:dops P n dr ops rest (⟨[s],dst.toList,[],[]⟩::log) K (dput dst (.tup []) fr) h):dops P n dr ops (⟨dst,op,ty,pos,after,some (j,want)⟩::rest) log K fr h :=
 Zav (ins:=[(s,.tup [])]) (objs:=[]) (LStep.skipU hd rfl hs (.inl rfl)) (by simp;rw[hb]) (by simp) hr
end
theorem wkz {G K:Prop} (hK:K) (h:Bx K→G:=by intro hK;(first|(refine gOp ?_;first|refine Zia (hr:=?_)|refine ZcB (hr:=?_)|(refine ZnB ?_;first|refine Zib TY (hr:=?_)|refine Ze7 TY (hr:=?_)|refine Ze8 TY (hr:=?_)|refine ZdN TY (hr:=?_))|(refine Zie ?_;first|refine ZbU TY (hr:=?_)|refine Zby TY (hr:=?_)|refine Zbz TY (hr:=?_))|(refine Zif ?_;first|refine ZbV TY (hr:=?_)|refine ZbA TY (hr:=?_))|(refine gBin ?_;first|refine Zng (hr:=?_)|refine Znh (hr:=?_)|refine Zni (hr:=?_)|refine Znj (hr:=?_)|refine Znk (hr:=?_)|refine Znl (hr:=?_)|refine Znq (hr:=?_)|refine Znr (hr:=?_)|refine Zns (hr:=?_)|refine Znt (hr:=?_)|refine Znu (hr:=?_)|refine s_or (hr:=?_)|refine Zl3 (hr:=?_)|refine Znv (hr:=?_)|refine Znw (hr:=?_)|refine Znx (hr:=?_)|refine Zny (hr:=?_))|(refine ZnC ?_;first|refine Znm TY (hr:=?_)|refine Zic TY (hr:=?_)|refine Znn TY (hr:=?_)|refine ZdO TY (hr:=?_)|refine Znz (hr:=?_)|refine ZnA (hr:=?_))|(refine ZnD ?_;first|refine Zdg true (hr:=?_)|refine Zdg false (hr:=?_)|refine Zfc (hr:=?_))|(refine gNil ?_;first|refine Zcv (hr:=?_)|refine ZbW (hr:=?_))|(refine Zig ?_;first|refine Ze9 TY (hr:=?_)|refine ZdP TY (hr:=?_))|(refine gUn ?_;first|refine Zno (hr:=?_)|refine Znp (hr:=?_))|refine Znf (hr:=?_)|refine Zfa TY (hr:=?_)|refine ZbB TY (hr:=?_)|refine Zfb TY (hr:=?_)|refine Zda (hr:=?_)|refine Zcw (hr:=?_)|refine Zfd TY (hr:=?_)|refine Zr3 (hr:=?_)|refine Zr4 (hr:=?_)|refine ZbX TY (hr:=?_)|refine Zid (hr:=?_))|refine Zdy ?_|refine Zkn ?_|refine Zbm ?_|refine Zcc ?_|refine ZdL ?_|refine ZeZ ?_|refine Ze0 ?_|refine ZlN ?_|refine ZdK ?_|refine ZcH ?_|refine Zc6 ?_|refine Zc7 ?_|refine Zc8 ?_|refine ZcI ?_|refine ZbY ?_|refine Zek ?_|refine Zfe ?_|refine Zff ?_);(repeat (first|(refine gOp ?_;first|refine Zia (hr:=?_)|refine ZcB (hr:=?_)|(refine ZnB ?_;first|refine Zib TY (hr:=?_)|refine Ze7 TY (hr:=?_)|refine Ze8 TY (hr:=?_)|refine ZdN TY (hr:=?_))|(refine Zie ?_;first|refine ZbU TY (hr:=?_)|refine Zby TY (hr:=?_)|refine Zbz TY (hr:=?_))|(refine Zif ?_;first|refine ZbV TY (hr:=?_)|refine ZbA TY (hr:=?_))|(refine gBin ?_;first|refine Zng (hr:=?_)|refine Znh (hr:=?_)|refine Zni (hr:=?_)|refine Znj (hr:=?_)|refine Znk (hr:=?_)|refine Znl (hr:=?_)|refine Znq (hr:=?_)|refine Znr (hr:=?_)|refine Zns (hr:=?_)|refine Znt (hr:=?_)|refine Znu (hr:=?_)|refine s_or (hr:=?_)|refine Zl3 (hr:=?_)|refine Znv (hr:=?_)|refine Znw (hr:=?_)|refine Znx (hr:=?_)|refine Zny (hr:=?_))|(refine ZnC ?_;first|refine Znm TY (hr:=?_)|refine Zic TY (hr:=?_)|refine Znn TY (hr:=?_)|refine ZdO TY (hr:=?_)|refine Znz (hr:=?_)|refine ZnA (hr:=?_))|(refine ZnD ?_;first|refine Zdg true (hr:=?_)|refine Zdg false (hr:=?_)|refine Zfc (hr:=?_))|(refine gNil ?_;first|refine Zcv (hr:=?_)|refine ZbW (hr:=?_))|(refine Zig ?_;first|refine Ze9 TY (hr:=?_)|refine ZdP TY (hr:=?_))|(refine gUn ?_;first|refine Zno (hr:=?_)|refine Znp (hr:=?_))|refine Znf (hr:=?_)|refine Zfa TY (hr:=?_)|refine ZbB TY (hr:=?_)|refine Zfb TY (hr:=?_)|refine Zda (hr:=?_)|refine Zcw (hr:=?_)|refine Zfd TY (hr:=?_)|refine Zr3 (hr:=?_)|refine Zr4 (hr:=?_)|refine ZbX TY (hr:=?_)|refine Zid (hr:=?_))|refine Zdy ?_|refine Zkn ?_|refine Zbm ?_|refine Zcc ?_|refine ZdL ?_|refine ZeZ ?_|refine Ze0 ?_|refine ZlN ?_|refine ZdK ?_|refine ZcH ?_|refine Zc6 ?_|refine Zc7 ?_|refine Zc8 ?_|refine ZcI ?_|refine ZbY ?_|refine Zek ?_|refine Zfe ?_|refine Zff ?_));exact hK.out):G:=h ⟨hK⟩
end Go.Proofs.YtbpmepgnjanhnaaGreat
namespace Go.Proofs.YtbpmepgnjanhnaaGreat
open Go.RowKit
def ZoF (off:Nat) (c:V) (ob:Ob):Prop:=∃ bt cs,ob=.box bt cs∧cs[off]?=some c
section
variable {P:Program} {n:Nat} {ops:Array Oper} {K:Exit→Fr→Hp→Prop} {dr:Bool} {rest:List Oper} {log:List Rec} {fr:Fr} {h:Hp} {d:Nat} {ty:TypeId} {pos:String} {after:Array Edge} {g:Option (Nat×Bool)}
variable (T:TT P)
theorem Zvk {x:Operand} {t:TypeId} {y:Ty} {k off:Nat} {bt:TypeId} {cs:List V} {c:V} (hdn:Nat.blt d n=true) (hg:gOk ops fr g) (hx:oev fr x=.ptr k off) (hk:hget h k=some (.box bt cs)) (ht:T.rows[t]?=some y) (hrow:y.row=false) (hc:cs[off]?=some c) (hlog:(log.all fun r=>r.wk.all fun j=>!Nat.beq j k)=true)
  (hr:dops P n dr ops rest (⟨(gIns ops g++Zay x (.ptr k off)).map Prod.fst,[d],[],[]⟩::log) (fun e fr' h'=>K e fr' h'∧(e=.normal→∃ u,h'=u++h∧∀ q∈u,q.1=k→ZoF off c q.2)) ((d,c)::fr) h):dops P n dr ops (⟨some d,.load t x,ty,pos,after,g⟩::rest) log K fr h:=by
 refine .inr ⟨gIns ops g++Zay x (.ptr k off),k,ZoF off c,c,?_,fun p hp=>?_,⟨_,hk,bt,cs,rfl,hc⟩,fun r hr hm=>?_,hr⟩
 ·intro G E fr' h' a w K Q hPan hn C hi ho hK
  obtain⟨ob,hk',bt',cs',rfl,hc'⟩:=ho
  have hgo:gOk ops fr' g:=ZgB hg (fun p hp=>hi p (List.mem_append.2 (.inl hp)))
  obtain⟨r,_⟩:=C.oev (Zcb hx (fun p hp=>hi p (List.mem_append.2 (.inr hp)))) (Zao (Zaj hx rfl))
  simp only[V.Rep] at r
  obtain⟨us,g1,g2,_⟩:=C.heap.obs k _ hk'
  obtain⟨u,q1,q2⟩:=g2.get hc'
  obtain⟨_,ds,_,h2,_,_,h5,_⟩:=ZaC (T.at ht)
  have hl:=Zcy (P:=P) h2 (by rw[h5];exact hrow) (w:=w) (b:=E.blk k) (o:=off) (u:=u) (by rw[cell_of_row w _ off _ bt' _ g1];simpa using q1)
  unfold wpS
  rw[if_pos (Zb3 C hgo)]
  refine .inl ?_
  unfold Oper.wp
  have he:(execOp a.eval ⟨some d,.load t x,ty,pos,after,g⟩).run P w=.ok (.value u) w:=by
   simp only[execOp,r,Sem.run_bind,hl,Result.andThen_ok,Sem.run_pure]
  rw[he]
  simp only[Oper.upon]
  refine hK E _ w ?_
  exact C.put (by rw[hn];simpa[Nat.blt_eq] using hdn) q2 (fun j hj=>C.heap.closed k _ hk' j (by simp only[Ob.keys];exact V.keyss_mem.2 ⟨c,List.mem_of_getElem? hc',hj⟩))
 ·rcases List.mem_append.1 hp with hp|hp
  ·exact Zc3 hg p hp
  ·exact Zbj hx p hp
 ·rw[List.all_eq_true] at hlog
  have h1:=hlog r hr
  rw[List.all_eq_true] at h1
  have h2:=h1 k hm
  rw[Nat.beq_refl] at h2;cases h2
end
theorem wk1 {G K:Prop} (hK:K) (h:Bx K→G:=by intro hK;(first|(refine gOp ?_;first|refine Zia (hr:=?_)|refine ZcB (hr:=?_)|(refine ZnB ?_;first|refine Zib TY (hr:=?_)|refine Ze7 TY (hr:=?_)|refine Ze8 TY (hr:=?_)|refine ZdN TY (hr:=?_))|(refine Zie ?_;first|refine ZbU TY (hr:=?_)|refine Zby TY (hr:=?_)|refine Zbz TY (hr:=?_))|(refine Zif ?_;first|refine ZbV TY (hr:=?_)|refine ZbA TY (hr:=?_))|(refine gBin ?_;first|refine Zng (hr:=?_)|refine Znh (hr:=?_)|refine Zni (hr:=?_)|refine Znj (hr:=?_)|refine Znk (hr:=?_)|refine Znl (hr:=?_)|refine Znq (hr:=?_)|refine Znr (hr:=?_)|refine Zns (hr:=?_)|refine Znt (hr:=?_)|refine Znu (hr:=?_)|refine s_or (hr:=?_)|refine Zl3 (hr:=?_)|refine Znv (hr:=?_)|refine Znw (hr:=?_)|refine Znx (hr:=?_)|refine Zny (hr:=?_))|(refine ZnC ?_;first|refine Znm TY (hr:=?_)|refine Zic TY (hr:=?_)|refine Znn TY (hr:=?_)|refine ZdO TY (hr:=?_)|refine Znz (hr:=?_)|refine ZnA (hr:=?_))|(refine ZnD ?_;first|refine Zdg true (hr:=?_)|refine Zdg false (hr:=?_)|refine Zfc (hr:=?_))|(refine gNil ?_;first|refine Zcv (hr:=?_)|refine ZbW (hr:=?_))|(refine Zig ?_;first|refine Ze9 TY (hr:=?_)|refine ZdP TY (hr:=?_))|(refine gUn ?_;first|refine Zno (hr:=?_)|refine Znp (hr:=?_))|refine Znf (hr:=?_)|refine Zfa TY (hr:=?_)|refine ZbB TY (hr:=?_)|refine Zfb TY (hr:=?_)|refine Zda (hr:=?_)|refine Zcw (hr:=?_)|refine Zfd TY (hr:=?_)|refine Zl2 (hr:=?_)|refine ZbX TY (hr:=?_)|refine Zid (hr:=?_))|refine Zdy ?_|refine Zkn ?_|refine Zbm ?_|refine Zcc ?_|refine ZdL ?_|refine ZeZ ?_|refine Ze0 ?_|refine ZlN ?_|refine ZdK ?_|refine ZcH ?_|refine Zc6 ?_|refine Zc7 ?_|refine Zc8 ?_|refine ZcI ?_|refine ZbY ?_|refine Zek ?_|refine Zfe ?_|refine Zff ?_);exact hK.out):G:=h ⟨hK⟩
theorem Zr5 {K:Exit→Fr→Hp→Prop} {k off:Nat} {c:V} {fr:Fr} {h h' u:Hp} (hK:K .normal fr h') (hu:h'=u++h) (hq:∀ q∈u,q.1=k→ZoF off c q.2):(fun e fr' h'=>K e fr' h'∧(e=.normal→∃ u,h'=u++h∧∀ q∈u,q.1=k→ZoF off c q.2)) .normal fr h':=⟨hK,fun _=>⟨u,hu,hq⟩⟩
end Go.Proofs.YtbpmepgnjanhnaaGreat
namespace Go.Proofs.YtbpmepgnjanhnaaGreat
open Go.RowKit
set_option maxRecDepth 100000
theorem Zne (w:World) (a b c d:Int):(Op.equal 31 (.agg #[.int .i64 a,.int .i64 b]) (.agg #[.int .i64 c,.int .i64 d])).run Tryz.prog w=.ok (decide ((⟨a,b⟩:Zb5)=⟨c,d⟩)) w:=by
 unfold Op.equal
 rw[show Op.maxDepth=9998+1+1 from rfl]
 unfold Op.equalIn
 simp only[Sem.run_bind,run_underlying Tryz.underlying31,Result.andThen_ok]
 simp[Sem.run_bind,go_sem]
 by_cases h1:a=c <;> by_cases h2:b=d <;> simp[h1,h2]
theorem Zl1:Tryz.prog.eqGuardType Tryz.prog.depth 31=false:=by kernel_rfl
theorem Zr6 (a b c d:Int):ZrZ Tryz.prog 31 (.agg #[.int .i64 a,.int .i64 b]) (.agg #[.int .i64 c,.int .i64 d]) (decide ((⟨a,b⟩:Zb5)=⟨c,d⟩)):=fun w=>⟨Zne w a b c d,Zl1⟩
end Go.Proofs.YtbpmepgnjanhnaaGreat
