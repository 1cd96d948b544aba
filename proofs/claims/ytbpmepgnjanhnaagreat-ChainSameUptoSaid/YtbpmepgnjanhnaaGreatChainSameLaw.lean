import Derived.Test.YtbpmepgnjanhnaaGreatQSmA
set_option linter.unusedVariables false
set_option linter.unusedSimpArgs false
set_option linter.unusedSectionVars false
namespace Go.Proofs.YtbpmepgnjanhnaaGreat.chainSame
open Go.ChangeShapes Go.WideShapes Go.ChangeAt Go.RowKit
set_option maxRecDepth 100000 in
theorem contract (H:Type) (enc:TypeId×Value→H) (W:World) (base:Nat) (args:Array Value) (ds gs:List (DataW H)) (before:List MemPlace)
  (hval:∀ (j:Nat) t v,Tryz.f4.params[j]? = some t→args[j]? = some v→Value.okWide Tryz.prog W .any base t v)
  (hW:DataW.Whole enc Tryz.prog Tryz.f4.params.toList Rows.chainSameSpec.vars false W args.toList ds gs before) (hk:Rows.uptoSmall H (ds++gs)=true) :
  Calls Tryz.prog 4 args W fun e W'=>∃ v,e=.returned v∧Rows.chainSameSpec.post enc Tryz.prog Tryz.f4 false true false false W args v W':=by
 have hW':=hW;obtain⟨p,q,hA0,hV,rfl,hfz,hnd⟩:=hW;have hA:DataW.TrodAll enc Tryz.prog W 0 (fun _=>true) true Tryz.f4.params.toList args.toList ds p:=hA0;rw[Tryz.params4] at hA hval;obtain⟨v0,vs0,d0,ds0,p0,q0,hargs,rfl,rfl,h0,r0⟩:=trodAll_cons hA;obtain⟨v1,vs1,d1,ds1,p1,q1,rfl,rfl,rfl,h1,r1⟩:=trodAll_cons r0;obtain⟨v2,vs2,d2,ds2,p2,q2,rfl,rfl,rfl,h2,r2⟩:=trodAll_cons r1;obtain⟨rfl,rfl,rfl⟩:=trodAll_nil r2;obtain rfl:args=#[v0,v1,v2]:=by cases args;simp_all
 obtain⟨rfl,rfl⟩:=trodVars_none hV;have hb:Rows.uptoBulk d0≤1048576∧Rows.uptoBulk d1≤1048576∧Rows.uptoBulk d2≤1048576:=by
  simp only[Rows.uptoSmall,Ht,Rows.uptoBulkAll,HZ] at hk;omega
 obtain⟨x0,e0,b0⟩:=ZCT Tryz.underlying24 ZEj (hval 0 24 v0 rfl rfl) h0;obtain⟨x1,e1,b1⟩:=Zqb Tryz.underlying25 Zx8 (hval 1 25 v1 rfl rfl) h1;obtain⟨x2,e2,b2⟩:=Zqb Tryz.underlying25 Zx8 (hval 2 25 v2 rfl rfl) h2;refine (Af.law (ds:=[Zbr false x0,ints false x1,ints false x2]) (Zoe (Ac.le.fit b0 (Hq hb.1 (by decide))) (Hq b1 (Hq hb.2.1 (by decide))) (Hq b2 (Hq hb.2.2 (by decide)))) ⟨_,_,rfl,e0,⟨_,_,rfl,e1,⟨_,_,rfl,e2,rfl⟩⟩⟩).mono fun e W' ⟨he,hE⟩=>?_
 subst he;exact⟨_,rfl,ZA0 Tryz.laidOut (by rw[Tryz.params4];intro t ht;simp at ht;rcases ht with rfl|rfl <;> exact⟨by kernel_rfl,H0 (by kernel_rfl)⟩) 4 rfl Tryz.underlying4 hW' rfl rfl hE⟩
set_option maxRecDepth 100000 in
theorem lifted (os:Os) (started:os.Started) (H:Type) (enc:TypeId×Value→H) (F:Stop.Interp) :
  ReturnsInHanded {} Tryz.checked os 4 .any ((Rows.OpenSpec.upto Rows.chainSameSpec).pre6 enc Tryz.prog Tryz.f4 Rows.chainSameUptoRow.domain false) (((Rows.OpenSpec.upto Rows.chainSameSpec).at F).post enc Tryz.prog Tryz.f4 false true false false):=by
 refine returnsInHanded_of_cond (C:=Tryz.checked) (s:=Rows.OpenSpec.upto Rows.chainSameSpec) (k:=Rows.uptoSmall) rfl Tryz.ownKnob started (by as_aux_lemma=>kernel_rfl) Tryz.func4
  (OpenSpec.witness (enc:=enc) (C:=Tryz.checked) (s:=Rows.OpenSpec.upto Rows.chainSameSpec) (k:=Rows.uptoSmall) rfl false ⟨#[],#[.agg #[.int .i64 0,.int .i64 0,.int .i64 0,.slice none 0 0],.slice none 0 0,.slice none 0 0],[]⟩ 8 (by as_aux_lemma=>kernel_rfl) (by as_aux_lemma=>kernel_rfl) (by as_aux_lemma=>kernel_rfl)
   (x:=([.agg [.lit (.int .i64 0),.lit (.int .i64 0),.lit (.int .i64 0),.nil],.nil,.nil],[],[])) (by as_aux_lemma=>kernel_rfl) rfl (by as_aux_lemma=>kernel_rfl)) ?_
 intro W base args ds gs before hval hW _ hk _;exact contract H enc W base args ds gs before hval hW hk
set_option maxHeartbeats 4000000 in
theorem over:Rows.chainSameUptoRow.holds Tryz.pinned (Rows.OpenSpec.upto Rows.chainSameSpec) :=
 OpenClaim.holds_of_cond 4 Tryz.f4 rfl rfl rfl rfl rfl rfl rfl ⟨rfl,rfl,rfl,rfl,rfl⟩ rfl rfl rfl rfl rfl (by as_aux_lemma=>kernel_rfl) Tryz.func4 (by as_aux_lemma=>kernel_rfl)
  (H0 (by as_aux_lemma=>kernel_rfl)) (by unfold Func.isWrapper;first|(rw[Hb (by decide +kernel)];kernel_rfl)|(rw[Ha (by decide +kernel)];exact⟨rfl,rfl⟩))
  (fun os started H enc _ F=>lifted os started H enc F)
theorem proved:Rows.ChainSameUptoSaid :=
 over
#print axioms proved
end Go.Proofs.YtbpmepgnjanhnaaGreat.chainSame
