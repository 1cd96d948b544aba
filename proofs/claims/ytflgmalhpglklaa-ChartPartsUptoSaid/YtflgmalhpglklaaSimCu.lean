/-
  Sim: a call that leaves every object as it was: it stands beside what only reads.
-/
import Derived.Test.YtflgmalhpglklaaS5
set_option linter.unusedVariables false
set_option linter.unusedSimpArgs false
set_option linter.unusedSectionVars false
namespace Go.Proofs.Ytflgmalhpglklaa
open Go.RowKit
section
variable {P : Program} {n : Nat} {dr : Bool} {ops : Array Oper} {rest : List Oper} {log : List Rec} {K : Exit → Fr → Hp → Prop} {fr : Fr} {h : Hp}
variable {ty : TypeId} {pos : String} {after : Array Edge} {g : Option (Nat × Bool)}
theorem d_callU {dst : Option Tmp} {fop : Operand} {xs : List Operand} {args : Array Operand} {ats : Array TypeId} {vs caps cargs : List V} {f : FuncId} {hc : Hp} {r : V} (φ : List (Nat × Nat)) {objs : List (Nat × Option Ob)} {fz : Hp} {W : List Nat}
    (hg : gOk ops fr g) (hd : dstOk n dst = true) (hxs : args.toList = xs) (hf : oev fr fop = .fn (.func f) [] caps) (hx : oevs fr xs vs) (h1 : xs.all oneOpd = true) (hA : ACalls P f cargs hc r hc) (ha : CArgs φ h (vs ++ caps) cargs objs fz W)
    (hlink : LinkH h φ hc) (hnew : NewH h (newKeys φ hc hc)) (hok : callOk φ hc hc fz W = true) (hin : (hpIn hc hc && V.insides hc cargs) = true) (hcl : W = [] ∨ (r.clean ∧ HpClean hc)) {fr' : Fr} {h' : Hp} (hfr : dput dst (r.ren φ) fr = fr') (hh : fz ++ h = h')
    (hr : dops P n dr ops rest (⟨(gIns ops g ++ (insOf fop (.fn (.func f) [] caps) ++ insAll xs vs)).map Prod.fst, dst.toList, (callObjs φ hc hc objs).map Prod.fst, fz.map Prod.fst⟩ :: log) K fr' h') :
    dops P n dr ops (⟨dst, .call { callee := .value fop, args := args, argTypes := ats }, ty, pos, after, g⟩ :: rest) log K fr h := by
  have hargs : args = xs.toArray := by rw [← hxs]
  subst hargs
  subst hfr
  subst hh
  simp only [Bool.and_eq_true] at hin
  have hnewo : ObjsOk h ((newKeys φ hc hc).map (fun k => (k, (none : Option Ob)))) := fun p hp => by
    obtain ⟨k, hk, rfl⟩ := List.mem_map.1 hp
    exact hnew.get k hk
  refine dops_cons (ins := gIns ops g ++ (insOf fop (.fn (.func f) [] caps) ++ insAll xs vs)) (objs := callObjs φ hc hc objs) (v := r.ren φ) (upd := fz) ?_ (ins_of hg (fun p hp => (List.mem_append.1 hp).elim (oev_ins hf p) (oevs_ins hx p)))
    (ObjsOk.append.2 ⟨LinkH.iff.1 hlink, ObjsOk.append.2 ⟨hnewo, ha.objs⟩⟩) hr
  intro G E fr' h' a w K Q hPan hn C hi ho hK
  have hgo : gOk ops fr' g := gOk_of hg (fun p hp => hi p (List.mem_append.2 (.inl hp)))
  have ho' := ObjsOk.append.1 (show ObjsOk h' (callObjs φ hc hc objs) from ho)
  have ho'' := ObjsOk.append.1 ho'.2
  have ha' := ha.of ho''.2
  have hlink' : LinkH h' φ hc := LinkH.iff.2 ho'.1
  have hf' := oev_of hf (fun p hp => hi p (List.mem_append.2 (.inr (List.mem_append.2 (.inl hp)))))
  have hx' := oevs_of hx (fun p hp => hi p (List.mem_append.2 (.inr (List.mem_append.2 (.inr hp)))))
  simp only [callOk, Bool.and_eq_true] at hok
  obtain ⟨⟨⟨⟨⟨⟨c1, c2⟩, c3⟩, c4⟩, c5⟩, c6⟩, c7⟩ := hok
  have C1 := C.frozs ha'.fz
  have hoff : ∀ k, (∀ p ∈ fz, p.1 ≠ k) → hget (fz ++ h') k = hget h' k := fun k hk => by
    rw [hget_append, hget_none (fun hm => by obtain ⟨p, hp, e⟩ := List.mem_map.1 hm; exact hk p hp e)]
  have hlinkz : LinkH (fz ++ h') φ hc := by
    refine LinkH.iff.2 (fun p hp => ?_)
    rw [hoff p.1 (fun q hq e => ?_)]
    · exact ho'.1 p hp
    · have hmem : ∀ {l : Hp}, p ∈ linkObjs φ l → ∃ q ∈ l, renK φ q.1 = p.1 := by
        intro l
        induction l with
        | nil => intro hp; simp [linkObjs] at hp
        | cons q l ih =>
          intro hp
          obtain ⟨j, ob⟩ := q
          simp only [linkObjs, List.mem_cons] at hp
          rcases hp with rfl | hp
          · exact ⟨_, List.mem_cons_self, rfl⟩
          · obtain ⟨q, hq, e⟩ := ih hp; exact ⟨q, List.mem_cons_of_mem _ hq, e⟩
      obtain ⟨q', hq', e'⟩ := hmem hp
      have := List.all_eq_true.1 (List.all_eq_true.1 c5 q hq) q' hq'
      rw [e, e', Nat.beq_refl] at this
      simp at this
  have hnewz : NewH (fz ++ h') (newKeys φ hc hc) := by
    have key : ∀ (l : List Nat), (∀ k ∈ l, hget h' k = none) → NewH (fz ++ h') l := by
      intro l
      induction l with
      | nil => intro _; trivial
      | cons k l ih =>
        intro hl
        refine ⟨?_, ih (fun j hj => hl j (List.mem_cons_of_mem _ hj))⟩
        rw [hoff k (fun p hp e => ?_)]
        · exact hl k List.mem_cons_self
        · obtain ⟨_, _, _, _, q⟩ := ha'.fz p hp
          rw [e, hl k List.mem_cons_self] at q; cases q
    exact key _ (fun k hk => ho''.1 (k, none) (List.mem_map.2 ⟨k, hk, rfl⟩))
  have hWf : ∀ k ∈ W, k ∉ fz.map Prod.fst := fun k hk hm => by
    obtain ⟨p, hp, rfl⟩ := List.mem_map.1 hm
    have := List.all_eq_true.1 (List.all_eq_true.1 c7 p hp) _ hk
    simp at this
  obtain ⟨r1, _⟩ := C1.oev hf' (oneOpd_spec (oneOpd_of hf rfl))
  obtain ⟨r2, _⟩ := oevs_rep C1 hx' h1
  simp only [V.Rep] at r1
  obtain ⟨af, cf, e1, e2, e3⟩ := r1
  simp only [V.Reps] at e2
  subst e2
  have hus := r2.append e3
  have hsame : ∀ k, hget (Hp.ren φ hc ++ (fz ++ h')) k = hget (fz ++ h') k := fun k => by
    rw [hget_append]
    cases hq : hget (Hp.ren φ hc) k with
    | none => rfl
    | some ob =>
      simp only
      have hk : k ∈ (Hp.ren φ hc).map Prod.fst := Classical.byContradiction fun hn => by rw [hget_none hn] at hq; cases hq
      rw [ren_keys] at hk
      obtain ⟨k0, hk0, rfl⟩ := List.mem_map.1 hk
      obtain ⟨p, hp, rfl⟩ := List.mem_map.1 hk0
      have h2 := hget_ren (φ := φ) (g := hc) (k := p.1) (fun j hj e => injB_spec c2 hj hk0 e)
      obtain ⟨o1, ho1⟩ := Option.isSome_iff_exists.1 (mem_hget hp)
      rw [h2, ho1] at hq
      simp only [Option.map_some, Option.some.injEq] at hq
      rw [hlinkz.get ho1, hq]
  have hcall := C1.call hA φ W hlinkz hnewz c1 hin.1 c2 c3 c4 (fun k hk => ⟨?_, fun q hq e => ?_⟩) hcl (us := xs.map a.eval ++ cf) (fun Ec M L hAl hvw => ha'.rep C1 ha'.fz L hAl hvw (fun _ hp => hp) (fun _ hk => hk) hWf (V.insides_spec hin.2) hus) (V.insides_spec hin.2)
  · unfold wpS
    rw [if_pos (gOk_wanted (o := ⟨dst, _, ty, pos, after, g⟩) C hgo)]
    refine .inl ?_
    unfold Oper.wp
    rw [execCall hA.1 a.eval cf e1]
    simp only [Oper.upon]
    refine hcall.mono ?_
    rintro e w' ⟨E', u, rfl, C', hru, hku⟩
    have C' := Conc.congr (fun _ => rfl) hsame C'
    have hru := (show V.Rep E' (fz ++ h') (bars E' (fz ++ h') G.o) w' (r.ren φ) u from by
      have e : ∀ k, hget (Hp.ren φ hc ++ (fz ++ h')) k = hget (fz ++ h') k := hsame
      have hB : bars E' (Hp.ren φ hc ++ (fz ++ h')) G.o = bars E' (fz ++ h') G.o := by
        funext t b
        have : ∀ k, blkOf E' (Hp.ren φ hc ++ (fz ++ h')) k = blkOf E' (fz ++ h') k := fun k => by funext b; unfold blkOf; rw [e k]
        unfold bars Live
        simp only [this]
      have T : Trans E' (Hp.ren φ hc ++ (fz ++ h')) (bars E' (Hp.ren φ hc ++ (fz ++ h')) G.o) w' E' (fz ++ h') (bars E' (fz ++ h') G.o) w' := by
        refine ⟨fun _ _ _ => rfl, fun k _ m hv => ⟨m, ?_, Nat.le_refl _, fun _ => rfl⟩, fun k _ sz n hv => ⟨n, ?_⟩, ?_⟩
        · unfold verAny at hv ⊢; rw [← e k]; exact hv
        · unfold verRow at hv ⊢; rw [e k]; exact hv
        · rw [hB]; exact Carry.refl _ _
      exact hru.move T hku (fun k hk => by rw [← e k]; exact hku k hk))
    have hku : ∀ k ∈ (r.ren φ).keys, (hget (fz ++ h') k).isSome = true := fun k hk => by rw [← hsame k]; exact hku k hk
    refine hK E' _ w' ?_
    cases dst with
    | none => exact C'.putNone _
    | some d => exact C'.put (by rw [hn]; simpa [dstOk, Nat.blt_eq] using hd) hru hku
  · obtain ⟨e, sz, xs', q⟩ := ha'.vwRow k hk
    exact ⟨e, sz, xs', by rw [hoff k (fun p hp e => hWf k hk (List.mem_map.2 ⟨p, hp, e⟩))]; exact q⟩
  · have := List.all_eq_true.1 (List.all_eq_true.1 c6 k hk) q hq
    rw [e, Nat.beq_refl] at this
    simp at this

end
section
theorem s_callU {ty : TypeId} {pos : String} {after : Array Edge} {g : Option (Nat × Bool)} {P : Program} {n : Nat} {dr : Bool} {ops : Array Oper} {rest : List Oper} {log : List Rec} {K : Exit → Fr → Hp → Prop} {fr : Fr} {h : Hp} {r' : V} {dst : Option Tmp} {fop : Operand} {xs : List Operand} {args : Array Operand} {ats : Array TypeId} {vs caps cargs : List V} {f : FuncId} {hc : Hp} {r : V} (φ : List (Nat × Nat)) {objs : List (Nat × Option Ob)} {fz : Hp} {W : List Nat} {fr' : Fr} {h' : Hp} (hg : gOk ops fr g := by first | exact gOk_none | exact gOk_some rfl rfl rfl | (apply gOk_some rfl rfl; (first | assumption | exact rfl | exact decide_eq_true rfl | exact congrArg not (decide_eq_true rfl) | ((try simp only [decide_eq_true_eq, decide_eq_false_iff_not, Bool.not_true, Bool.not_false, Bool.not_eq_true', Bool.not_eq_false', Bool.not_not, Int.not_lt, Int.not_le, Bool.and_eq_true, Bool.or_eq_true, Bool.and_eq_false_iff, Bool.or_eq_false_iff]); first | assumption | omega)))) (hd : dstOk n dst = true := by exact rfl) (hxs : args.toList = xs := by exact rfl) (hf : oev fr fop = .fn (.func f) [] caps := by exact rfl) (hx : oevs fr xs vs := by repeat' (first | exact oevs_nil | (apply oevs_cons; conv => lhs; whnf))) (h1 : xs.all oneOpd = true := by exact rfl) (ha : CArgs φ h (vs ++ caps) cargs objs fz W := by repeat' (first | exact CArgs.nil | (apply CArgs.cons) | exact CArg.same rfl | exact CArg.vw rfl (by first | exact rfl | assumption | (simp only [List.length_map, List.length_append, List.length_cons, List.length_nil, List.length_replicate, List.length_set, List.length_take, List.length_drop]; done) | ((try simp only [List.length_map, List.length_append, List.length_cons, List.length_nil, List.length_replicate, List.length_set, List.length_take, List.length_drop]); first | assumption | omega)) (by first | exact views_ints _ | exact views_bools _ | exact views_strs _ | exact views_more (.rules _ _) | exact views_more (.trees _ _) | exact views_more (.tree1 _ _) | exact views_more (.frags _ _) | exact views_more (.frag1 _ _) | exact views_fragss _ _ | exact views_intss _ _ | exact views_exprs _ _ | exact views_expr1 _ _ | exact views_defs _ _ | exact views_toks _ | exact views_aux _ _ | exact rfl) | exact CArg.emb (by repeat' (first | exact EmbV.one (.d _) | exact EmbV.one (.own rfl (by first | exact rfl | assumption | (simp only [List.length_map, List.length_append, List.length_cons, List.length_nil, List.length_replicate, List.length_set, List.length_take, List.length_drop]; done) | ((try simp only [List.length_map, List.length_append, List.length_cons, List.length_nil, List.length_replicate, List.length_set, List.length_take, List.length_drop]); first | assumption | omega))) | exact EmbV.one (.frz rfl (by first | exact rfl | assumption | (simp only [List.length_map, List.length_append, List.length_cons, List.length_nil, List.length_replicate, List.length_set, List.length_take, List.length_drop]; done) | ((try simp only [List.length_map, List.length_append, List.length_cons, List.length_nil, List.length_replicate, List.length_set, List.length_take, List.length_drop]); first | assumption | omega))) | exact EmbV.one (.full _ _ _) | apply EmbV.agg | exact Embs.nil | apply Embs.cons | exact Emb.d _ | exact Emb.own rfl (by first | exact rfl | assumption | (simp only [List.length_map, List.length_append, List.length_cons, List.length_nil, List.length_replicate, List.length_set, List.length_take, List.length_drop]; done) | ((try simp only [List.length_map, List.length_append, List.length_cons, List.length_nil, List.length_replicate, List.length_set, List.length_take, List.length_drop]); first | assumption | omega)) | exact Emb.frz rfl (by first | exact rfl | assumption | (simp only [List.length_map, List.length_append, List.length_cons, List.length_nil, List.length_replicate, List.length_set, List.length_take, List.length_drop]; done) | ((try simp only [List.length_map, List.length_append, List.length_cons, List.length_nil, List.length_replicate, List.length_set, List.length_take, List.length_drop]); first | assumption | omega)) | exact Emb.full _ _ _)))) (hlink : LinkH h φ hc := by repeat' (first | exact LinkH.nil | (apply LinkH.cons; exact rfl))) (hnew : NewH h (newKeys φ hc hc) := by first | exact True.intro | exact ⟨rfl, True.intro⟩ | exact ⟨rfl, rfl, True.intro⟩ | exact ⟨rfl, rfl, rfl, True.intro⟩) (hok : callOk φ hc hc fz W = true := by exact rfl) (hin : (hpIn hc hc && V.insides hc cargs) = true := by exact rfl) (hcl : W = [] ∨ (r.clean ∧ HpClean hc) := by first | exact Or.inl rfl | exact Or.inr ⟨trivial, trivial⟩ | exact Or.inr ⟨⟨trivial, trivial⟩, trivial⟩ | (refine Or.inr ⟨?_, ?_⟩ <;> simp [V.clean, V.cleans, D.clean, D.cleans, HpClean, Ob.clean, ints_clean, rules_clean, trees_clean_map, frags_clean_map])) (hr0 : r.ren φ = r' := by first | (conv => lhs; simp only [dput, V.ren, V.rens, Ob.ren, Hp.ren, renK, Nat.reduceBEq, cond_true, cond_false, List.cons_append, List.nil_append, List.append_nil]) | exact rfl) (hfr : dput dst r' fr = fr' := by conv => lhs; whnf) (hh : fz ++ h = h' := by conv => lhs; whnf) (hA : ACalls P f cargs hc r hc) (hr : dops P n dr ops rest (⟨(gIns ops g ++ (insOf fop (.fn (.func f) [] caps) ++ insAll xs vs)).map Prod.fst, dst.toList, (callObjs φ hc hc objs).map Prod.fst, fz.map Prod.fst⟩ :: log) K fr' h') :dops P n dr ops (⟨dst, .call { callee := .value fop, args := args, argTypes := ats }, ty, pos, after, g⟩ :: rest) log K fr h := d_callU φ hg hd hxs hf hx h1 hA ha hlink hnew hok hin hcl (by rw [hr0]; exact hfr) hh hr
end
end Go.Proofs.Ytflgmalhpglklaa
