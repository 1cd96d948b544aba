import Derived.Test.YtbpmepgnjanhnaaGreatQFoL
import Derived.Test.YtbpmepgnjanhnaaGreatQLw
set_option linter.unusedVariables false
set_option linter.unusedSimpArgs false
set_option linter.unusedSectionVars false
namespace Go.Proofs.YtbpmepgnjanhnaaGreat.chainChecks
open Go.ChangeShapes Go.WideShapes Go.ChangeAt Go.RowKit
set_option maxRecDepth 100000 in
theorem contract (H:Type) (enc:TypeId×Value→H) (W:World) (base:Nat) (args:Array Value) (ds gs:List (DataW H)) (before:List MemPlace)
  (hval:∀ (j:Nat) t v,Tryz.f7.params[j]? = some t→args[j]? = some v→Value.okWide Tryz.prog W .any base t v)
  (hW:DataW.Whole enc Tryz.prog Tryz.f7.params.toList Rows.chainChecksSpec.vars false W args.toList ds gs before) (hk:Rows.uptoSmall H (ds++gs)=true) :
  Calls Tryz.prog 7 args W fun e W'=>∃ v,e=.returned v∧Rows.chainChecksSpec.post enc Tryz.prog Tryz.f7 false true false false W args v W':=by
 have hW':=hW
 obtain⟨p,q,hA0,hV,rfl,hfz,hnd⟩:=hW
 have hA:DataW.TrodAll enc Tryz.prog W 0 (fun _=>true) true Tryz.f7.params.toList args.toList ds p:=hA0
 rw[Tryz.params7] at hA hval
 obtain⟨v0,vs0,d0,ds0,p0,q0,hargs,rfl,rfl,h0,r0⟩:=trodAll_cons hA
 obtain⟨v1,vs1,d1,ds1,p1,q1,rfl,rfl,rfl,h1,r1⟩:=trodAll_cons r0
 obtain⟨v2,vs2,d2,ds2,p2,q2,rfl,rfl,rfl,h2,r2⟩:=trodAll_cons r1
 obtain⟨v3,vs3,d3,ds3,p3,q3,rfl,rfl,rfl,h3,r3⟩:=trodAll_cons r2
 obtain⟨rfl,rfl,rfl⟩:=trodAll_nil r3
 obtain rfl:args=#[v0,v1,v2,v3]:=by cases args;simp_all
 obtain⟨rfl,rfl⟩:=trodVars_none hV
 have hb:Rows.uptoBulk d0≤1048576∧Rows.uptoBulk d1≤1048576∧Rows.uptoBulk d2≤1048576∧Rows.uptoBulk d3≤1048576:=by
  simp only[Rows.uptoSmall,List.append_nil,Rows.uptoBulkAll,decide_eq_true_eq] at hk
  omega
 obtain⟨x0,e0,b0⟩:=Zrd Tryz.underlying24 Zt8 (hval 0 24 v0 rfl rfl) h0
 obtain⟨x1,e1,b1⟩:=Zln Tryz.underlying29 ZuM (hval 1 29 v1 rfl rfl) h1
 obtain⟨x2,e2,b2⟩:=Zrd Tryz.underlying56 ZvQ (hval 2 56 v2 rfl rfl) h2
 obtain⟨x3,e3,b3⟩:=Zln Tryz.underlying25 Zt7 (hval 3 25 v3 rfl rfl) h3
 refine (ACalls.law (ds:=[ZaH false x0,ZaZ false false x1,ZaE false x2,ints false x3]) (Zhz (Gram.le.fit b0 (Nat.le_trans hb.1 (by decide))) (fun s hs=>Step.le.fit (b1.2 s hs) (Nat.le_trans hb.2.1 (by decide))) (Nat.le_trans b1.1 (Nat.le_trans hb.2.1 (by decide))) (Nat.le_trans b2 (Nat.le_trans hb.2.2.1 (by decide))) (Nat.le_trans b3 (Nat.le_trans hb.2.2.2 (by decide)))) ⟨_,_,rfl,e0,⟨_,_,rfl,e1,⟨_,_,rfl,e2,⟨_,_,rfl,e3,rfl⟩⟩⟩⟩).mono fun e W' ⟨he,hE⟩=>?_
 subst he
 exact⟨_,rfl,Ztn Tryz.laidOut (by rw[Tryz.params7];intro t ht;simp at ht;rcases ht with rfl|rfl|rfl|rfl <;> exact⟨by kernel_rfl,of_decide_eq_true (by kernel_rfl)⟩) 4 rfl Tryz.underlying4 hW' rfl rfl hE⟩
set_option maxRecDepth 100000 in
theorem lifted (os:Os) (started:os.Started) (H:Type) (enc:TypeId×Value→H) (F:Stop.Interp) :
  ReturnsInHanded {} Tryz.checked os 7 .any ((Rows.OpenSpec.upto Rows.chainChecksSpec).pre6 enc Tryz.prog Tryz.f7 Rows.chainChecksUptoRow.domain false) (((Rows.OpenSpec.upto Rows.chainChecksSpec).at F).post enc Tryz.prog Tryz.f7 false true false false):=by
 refine returnsInHanded_of_cond (C:=Tryz.checked) (s:=Rows.OpenSpec.upto Rows.chainChecksSpec) (k:=Rows.uptoSmall) rfl Tryz.ownKnob started (by as_aux_lemma=>kernel_rfl) Tryz.func7
  (OpenSpec.witness (enc:=enc) (C:=Tryz.checked) (s:=Rows.OpenSpec.upto Rows.chainChecksSpec) (k:=Rows.uptoSmall) rfl false ⟨#[],#[.agg #[.int .i64 0,.int .i64 0,.int .i64 0,.slice none 0 0],.slice none 0 0,.agg #[.int .i64 0,.slice none 0 0],.slice none 0 0],[]⟩ 8 (by as_aux_lemma=>kernel_rfl) (by as_aux_lemma=>kernel_rfl) (by as_aux_lemma=>kernel_rfl)
   (x:=([.agg [.lit (.int .i64 0),.lit (.int .i64 0),.lit (.int .i64 0),.nil],.nil,.agg [.lit (.int .i64 0),.nil],.nil],[],[])) (by as_aux_lemma=>kernel_rfl) rfl (by as_aux_lemma=>kernel_rfl)) ?_
 intro W base args ds gs before hval hW _ hk _
 exact contract H enc W base args ds gs before hval hW hk
set_option maxHeartbeats 4000000 in
theorem over:Rows.chainChecksUptoRow.holds Tryz.pinned (Rows.OpenSpec.upto Rows.chainChecksSpec) :=
 OpenClaim.holds_of_cond 7 Tryz.f7 rfl rfl rfl rfl rfl rfl rfl ⟨rfl,rfl,rfl,rfl,rfl⟩ rfl rfl rfl rfl rfl (by as_aux_lemma=>kernel_rfl) Tryz.func7 (by as_aux_lemma=>kernel_rfl)
  (of_decide_eq_true (by as_aux_lemma=>kernel_rfl)) (by unfold Func.isWrapper;first|(rw[if_pos (by decide +kernel)];kernel_rfl)|(rw[if_neg (by decide +kernel)];exact⟨rfl,rfl⟩))
  (fun os started H enc _ F=>lifted os started H enc F)
theorem proved:Rows.ChainChecksUptoSaid :=
 over
#print axioms proved
end Go.Proofs.YtbpmepgnjanhnaaGreat.chainChecks
