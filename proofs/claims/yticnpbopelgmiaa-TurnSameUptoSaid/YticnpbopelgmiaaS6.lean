/-
  Sim: calls that panic. Sim: interface values that are raw: made, compared with nil, asked for their kind; panic. Sim: functions with one deferred call; the deferred call's own contract, with recover. Sim: the walk of a function with one deferred call.
-/
import Derived.Test.YticnpbopelgmiaaQS5
import Derived.Test.YticnpbopelgmiaaS4
import Derived.Recover
set_option linter.unusedVariables false
set_option linter.unusedSimpArgs false
set_option linter.unusedSectionVars false
namespace Go.Proofs.Yticnpbopelgmiaa
open Go.RowKit

section
variable {P : Program} {n : Nat} {Q : Exit → Fr → Hp → Prop} {fr : Fr} {h : Hp}
theorem Conc.never {G : Ctx} {E : Env} {a : Act} {w : World} (C : Conc G E fr h a w) {i : Nat} (hi : fget fr i = never) : False := by
  have := C.frame i
  rw [hi] at this
  simp only [never, V.Rep] at this
  obtain ⟨_, _, _, _, h2, _⟩ := this
  simp at h2
/-- A state that does not come. -/
def Nev (fr : Fr) (h : Hp) : Prop := (∃ i, fget fr i = never) ∨ ∃ k ty, hget h k = some (.box ty [never])
theorem Nev.slot {fr : Fr} {h : Hp} (i : Nat) (hi : fget fr i = never) : Nev fr h := .inl ⟨i, hi⟩
theorem Nev.obj {fr : Fr} {h : Hp} (k : Nat) {ty : TypeId} (hk : hget h k = some (.box ty [never])) : Nev fr h := .inr ⟨k, ty, hk⟩
theorem Conc.nev {G : Ctx} {E : Env} {a : Act} {w : World} (C : Conc G E fr h a w) (hv : Nev fr h) : False := by
  rcases hv with ⟨i, hi⟩ | ⟨k, ty, hk⟩
  · exact C.never hi
  · obtain ⟨us, _, g2, _⟩ := C.heap.obs k _ hk
    simp only [V.Reps, never, V.Rep] at g2
    obtain ⟨_, _, _, ⟨_, _, _, _, h2, _⟩, _⟩ := g2
    simp at h2
theorem aw_nev {c : Code} (hv : Nev fr h) : aw P n c Q fr h := fun _ _ _ _ _ C => (C.nev hv).elim
/-- Where a call begins. -/
theorem Conc.start {fn : Func} {args : List V} {us : List Value} {E : Env} {o : Bars} {w : World} (hn : fn.ntmps = n) (ha : args.length ≤ n) (H : HRep E h o w) (hr : V.Reps E h (bars E h o) w args us) (hk : ∀ k ∈ V.keyss args, (hget h k).isSome = true)
    (ho : ∀ t b, o t b → b < w.heap.size ∧ ¬ Live E h b) (hs : ∀ b, o true b → o false b) : Conc ⟨n, w, Live E h, E, h, o, []⟩ E (argFr 0 args) h { tmps := us.toArray ++ Array.replicate (fn.ntmps - us.toArray.size) undef, defers := [] } w := by
  have hl := hr.length
  refine ⟨by simp [hn]; omega, rfl, fun i => ?_, H, fun i k hi => hk k (argFr_keys args 0 i k hi), Ext.refl _ _, fun k b hb => .inl ⟨k, hb⟩, fun k hk hsm => ⟨hsm, rfl, fun m hm => ⟨m, hm, Nat.le_refl _, fun _ => rfl⟩, fun sz n hv => ⟨n, hv⟩⟩, ho, hs⟩
  have := argFr_get hr 0 i
  rw [if_pos (Nat.zero_le _), Nat.sub_zero] at this
  have e : (us.toArray ++ Array.replicate (fn.ntmps - us.toArray.size) undef).getD i undef = us.getD i undef := by
    simp only [Array.getD_eq_getD_getElem?, List.getD_eq_getElem?_getD]
    rw [Array.getElem?_append]
    simp only [List.size_toArray, List.getElem?_toArray, Array.getElem?_replicate]
    by_cases h1 : i < us.length
    · rw [if_pos h1]
    · rw [if_neg h1, List.getElem?_eq_none (by omega)]
      split <;> rfl
  show V.Rep E h (bars E h o) w _ ((us.toArray ++ Array.replicate (fn.ntmps - us.toArray.size) undef).getD i undef)
  rw [e]; exact this
/-- How a function ends that panics. -/
def PFin (u : Value) (h' : Hp) : Exit → Fr → Hp → Prop
  | .panic ch, _, h => ch = [{ v := u, recovered := false }] ∧ HLe h h' ∧ hpIn h' h' = true
  | .normal, fr, h | .ret, fr, h => Nev fr h
  | _, _, _ => False
/-- A panic's contract, from the walk through its body. -/
theorem APan.intro {f : FuncId} {fn : Func} {c : Code} {args : List V} {u : Value} {h' : Hp} (hf : P.funcs[f]? = some fn) (hb : fn.body = some c) (hn : fn.ntmps = n) (ha : args.length ≤ n) (hnm : (fn.name == "runtime.NumGoroutine") = false) (hu : u.oneCell' = true)
    (hw : aw P n c (PFin u h') (argFr 0 args) h) : APan P f args h u h' := by
  refine ⟨⟨fn, hf, hnm, by rw [hb]; rfl⟩, ?_⟩
  intro E w us o H hr hk ho hs
  refine calls_of_wp hf hb ?_
  refine wp_mono (hw _ E _ w rfl (Conc.start hn ha H hr hk ho hs)) fun e a w' ⟨E', fr', g, hq, C'⟩ => ?_
  cases e with
  | normal => exact (C'.nev hq).elim
  | ret => exact (C'.nev hq).elim
  | exit id => exact hq
  | goto l => exact hq
  | panic ch =>
    obtain ⟨rfl, k3, k4⟩ := hq
    refine ⟨C'.defers, E', u, rfl, ?_, by simp [V.Rep, D.RepV, D.Rep, hu], by simp [V.keys], ?_, fun k hk hsm => ?_, fun k b hb => ?_⟩
    · exact C'.heap.sub k3 k4
    · exact C'.ext
    · obtain ⟨g0, g1, g2, g3⟩ := C'.keep k hk (k3.isSome hsm)
      refine ⟨g0, g1, fun m hm => ?_, fun sz n hv => g3 sz n (k3.verRow hv)⟩
      obtain ⟨m', l1, l2, l3⟩ := g2 m hm
      exact ⟨m', k3.verAny hsm l1, l2, l3⟩
    · exact C'.fresh k b (k3.blkOf hb)
  | outgrown => exact hq.elim
end

section
variable {P : Program} {n : Nat} {dr : Bool} {ops : Array Oper} {rest : List Oper} {log : List Rec} {K : Exit → Fr → Hp → Prop} {fr : Fr} {h : Hp}
variable {ty : TypeId} {pos : String} {after : Array Edge} {g : Option (Nat × Bool)}
/-- A call that panics. -/
theorem d_panCall {d : Tmp} {u0 : Value} (exf : List (Nat × V)) (extra : List (Nat × Option Ob)) {fop : Operand} {xs : List Operand} {args : Array Operand} {ats : Array TypeId} {vs caps cargs : List V} {f : FuncId} {hc hc' : Hp} (φ : List (Nat × Nat)) {objs : List (Nat × Option Ob)} {fz : Hp} {W : List Nat}
    (hg : gOk ops fr g) (hd : Nat.blt d n = true) (hxs : args.toList = xs) (hf : oev fr fop = .fn (.func f) [] caps) (hx : oevs fr xs vs) (h1 : xs.all oneOpd = true) (hA : APan P f cargs hc u0 hc') (ha : CArgs φ h (vs ++ caps) cargs objs fz W)
    (hlink : LinkH h φ hc) (hnew : NewH h (newKeys φ hc hc')) (hok : callOk φ hc hc' fz W = true) (hin : (hpIn hc hc && V.insides hc cargs) = true) (hcl : W = [] ∨ HpClean hc') {hd' : Hp} (hh : Hp.ren φ hc' ++ fz = hd') (hex : ObjsOk h extra) (hexf : ∀ p ∈ exf, fget fr p.1 = p.2)
    (hpn : ∀ fr' h', (∀ p ∈ exf, fget fr' p.1 = p.2) → ObjsOk h' extra → K (.panic [{ v := u0, recovered := false }]) fr' (hd' ++ h'))
    (hr : dops P n dr ops rest (⟨(gIns ops g ++ (insOf fop (.fn (.func f) [] caps) ++ (insAll xs vs ++ exf))).map Prod.fst, [d], (callObjs φ hc hc' objs ++ extra).map Prod.fst, []⟩ :: log) K ((d, never) :: fr) h) :
    dops P n dr ops (⟨some d, .call { callee := .value fop, args := args, argTypes := ats }, ty, pos, after, g⟩ :: rest) log K fr h := by
  have hargs : args = xs.toArray := by rw [← hxs]
  subst hargs
  subst hh
  simp only [Bool.and_eq_true] at hin
  have hnewo : ObjsOk h ((newKeys φ hc hc').map (fun k => (k, (none : Option Ob)))) := fun p hp => by
    obtain ⟨k, hk, rfl⟩ := List.mem_map.1 hp
    exact hnew.get k hk
  refine dops_cons (ins := gIns ops g ++ (insOf fop (.fn (.func f) [] caps) ++ (insAll xs vs ++ exf))) (objs := callObjs φ hc hc' objs ++ extra) (v := never) (upd := []) ?_ (ins_of hg (fun p hp => (List.mem_append.1 hp).elim (oev_ins hf p) (fun hp => (List.mem_append.1 hp).elim (oevs_ins hx p) (hexf p))))
    (ObjsOk.append.2 ⟨ObjsOk.append.2 ⟨LinkH.iff.1 hlink, ObjsOk.append.2 ⟨hnewo, ha.objs⟩⟩, hex⟩) hr
  intro G E fr' h' a w K Q hPan hn C hi ho hK
  have hgo : gOk ops fr' g := gOk_of hg (fun p hp => hi p (List.mem_append.2 (.inl hp)))
  have hoe := ObjsOk.append.1 (show ObjsOk h' (callObjs φ hc hc' objs ++ extra) from ho)
  have ho' := ObjsOk.append.1 (show ObjsOk h' (callObjs φ hc hc' objs) from hoe.1)
  have ho'' := ObjsOk.append.1 ho'.2
  have ha' := ha.of ho''.2
  have hlink' : LinkH h' φ hc := LinkH.iff.2 ho'.1
  have hf' := oev_of hf (fun p hp => hi p (List.mem_append.2 (.inr (List.mem_append.2 (.inl hp)))))
  have hx' := oevs_of hx (fun p hp => hi p (List.mem_append.2 (.inr (List.mem_append.2 (.inr (List.mem_append.2 (.inl hp)))))))
  have hxf' : ∀ p ∈ exf, fget fr' p.1 = p.2 := fun p hp => hi p (List.mem_append.2 (.inr (List.mem_append.2 (.inr (List.mem_append.2 (.inr hp))))))
  simp only [callOk, Bool.and_eq_true] at hok
  obtain ⟨⟨⟨⟨⟨⟨c1, c2⟩, c3⟩, c4⟩, c5⟩, c6⟩, c7⟩ := hok
  have C1 := C.frozs ha'.fz
  have hoff : ∀ k, (∀ p ∈ fz, p.1 ≠ k) → hget (fz ++ h') k = hget h' k := fun k hk => by
    rw [hget_append, hget_none (fun hm => by obtain ⟨p, hp, e⟩ := List.mem_map.1 hm; exact hk p hp e)]
  have hlinkz : LinkH (fz ++ h') φ hc := by
    refine LinkH.iff.2 (fun p hp => ?_)
    rw [hoff p.1 (fun q hq e => ?_)]
    · exact ho'.1 p hp
    · have hmem : ∀ {l : Hp}, p ∈ linkObjs φ l → ∃ q ∈ l, renK φ q.1 = p.1 := by
        intro l
        induction l with
        | nil => intro hp; simp [linkObjs] at hp
        | cons q l ih =>
          intro hp
          obtain ⟨j, ob⟩ := q
          simp only [linkObjs, List.mem_cons] at hp
          rcases hp with rfl | hp
          · exact ⟨_, List.mem_cons_self, rfl⟩
          · obtain ⟨q, hq, e⟩ := ih hp; exact ⟨q, List.mem_cons_of_mem _ hq, e⟩
      obtain ⟨q', hq', e'⟩ := hmem hp
      have := List.all_eq_true.1 (List.all_eq_true.1 c5 q hq) q' hq'
      rw [e, e', Nat.beq_refl] at this
      simp at this
  have hnewz : NewH (fz ++ h') (newKeys φ hc hc') := by
    have key : ∀ (l : List Nat), (∀ k ∈ l, hget h' k = none) → NewH (fz ++ h') l := by
      intro l
      induction l with
      | nil => intro _; trivial
      | cons k l ih =>
        intro hl
        refine ⟨?_, ih (fun j hj => hl j (List.mem_cons_of_mem _ hj))⟩
        rw [hoff k (fun p hp e => ?_)]
        · exact hl k List.mem_cons_self
        · obtain ⟨_, _, _, _, q⟩ := ha'.fz p hp
          rw [e, hl k List.mem_cons_self] at q; cases q
    exact key _ (fun k hk => ho''.1 (k, none) (List.mem_map.2 ⟨k, hk, rfl⟩))
  have hWf : ∀ k ∈ W, k ∉ fz.map Prod.fst := fun k hk hm => by
    obtain ⟨p, hp, rfl⟩ := List.mem_map.1 hm
    have := List.all_eq_true.1 (List.all_eq_true.1 c7 p hp) _ hk
    simp at this
  obtain ⟨r1, _⟩ := C1.oev hf' (oneOpd_spec (oneOpd_of hf rfl))
  obtain ⟨r2, _⟩ := oevs_rep C1 hx' h1
  simp only [V.Rep] at r1
  obtain ⟨af, cf, e1, e2, e3⟩ := r1
  simp only [V.Reps] at e2
  subst e2
  have hus := r2.append e3
  have hcall := C1.call hA φ W hlinkz hnewz c1 hin.1 c2 c3 c4 (fun k hk => ⟨?_, fun q hq e => ?_⟩) (hcl.imp id (fun q => ⟨trivial, q⟩)) (us := xs.map a.eval ++ cf) (fun Ec M L hAl hvw => ha'.rep C1 ha'.fz L hAl hvw (fun _ hp => hp) (fun _ hk => hk) hWf (V.insides_spec hin.2) hus) (V.insides_spec hin.2)
  · unfold wpS
    rw [if_pos (gOk_wanted (o := ⟨some d, _, ty, pos, after, g⟩) C hgo)]
    refine .inl ?_
    unfold Oper.wp
    rw [execCall hA.1 a.eval cf e1]
    simp only [Oper.upon]
    refine hcall.mono ?_
    rintro e w' ⟨E', u, rfl, C', hru, hku⟩
    have hq := hpn fr' h' hxf' hoe.2
    simp only [V.ren, V.Rep, D.RepV, D.Rep, List.cons.injEq, and_true] at hru
    rw [hru.1]
    refine hPan _ E' fr' _ a w' hq ?_
    rw [List.append_assoc]; exact C'
  · obtain ⟨e, sz, xs', q⟩ := ha'.vwRow k hk
    exact ⟨e, sz, xs', by rw [hoff k (fun p hp e => hWf k hk (List.mem_map.2 ⟨p, hp, e⟩))]; exact q⟩
  · have := List.all_eq_true.1 (List.all_eq_true.1 c6 k hk) q hq
    rw [e, Nat.beq_refl] at this
    simp at this
end
end Go.Proofs.Yticnpbopelgmiaa
namespace Go.Proofs.Yticnpbopelgmiaa
open Go.RowKit

section
variable {P : Program} {n : Nat} {dr : Bool} {ops : Array Oper} {rest : List Oper} {log : List Rec} {K : Exit → Fr → Hp → Prop} {fr : Fr} {h : Hp}
variable {d : Nat} {ty : TypeId} {pos : String} {after : Array Edge} {g : Option (Nat × Bool)}
def notIface : TypeDesc → Bool
  | .interface _ => false
  | _ => true
theorem d_iface {x : Operand} {xt : TypeId} {v : V} {u : Value} {ds : TypeDesc} (hdn : Nat.blt d n = true) (hg : gOk ops fr g) (hx : oev fr x = v) (hv : vval v = some u) (h1 : oneOpd x = true) (hu : P.underlying xt = some ds) (hi : notIface ds = true)
    (hr : dops P n dr ops rest (⟨(gIns ops g ++ insAll [x] [v]).map Prod.fst, [d], [], []⟩ :: log) K ((d, .d (.raw (.iface xt u))) :: fr) h) : dops P n dr ops (⟨some d, .makeInterface xt x, ty, pos, after, g⟩ :: rest) log K fr h := by
  refine d_val [x] [v] [u] (.iface xt u) (by simp [vvals, hv]) (fun ρ w hρ => ?_) rfl hdn hg ⟨hx, trivial⟩ (by simp [h1]) hr
  simp only [List.map_cons, List.map_nil, List.cons.injEq, and_true] at hρ
  cases ds <;> first
    | (simp [notIface] at hi; done)
    | simp only [execOp, hρ, Instr.makeInterface, Sem.run_bind, run_underlying hu, Result.andThen_ok, Sem.run_pure]
def isNilIface : Value → Option Bool
  | .nilIface => some true
  | .iface _ _ => some false
  | _ => none
theorem d_neNil {x : Operand} {xt yt : TypeId} {u : Value} {b : Bool} {ms} (hdn : Nat.blt d n = true) (hg : gOk ops fr g) (hx : oev fr x = .d (.raw u)) (hb : isNilIface u = some b) (hu : P.underlying xt = some (.interface ms))
    (hr : dops P n dr ops rest (⟨(gIns ops g ++ insAll [x, .const .nilIface] (raws [u, .nilIface])).map Prod.fst, [d], [], []⟩ :: log) K ((d, B (!b)) :: fr) h) : dops P n dr ops (⟨some d, .binOp .neq xt x (.const .nilIface) yt, ty, pos, after, g⟩ :: rest) log K fr h := by
  refine d_raw [x, .const .nilIface] [u, .nilIface] (.bool !b) (fun ρ w hρ => ?_) rfl hdn hg ⟨hx, rfl, trivial⟩ ?_ hr
  · simp only [List.map_cons, List.map_nil, List.cons.injEq, and_true] at hρ
    have e : (Op.equal xt u .nilIface).run P w = .ok b w := by
      unfold Op.equal
      rw [show Op.maxDepth = 9999 + 1 from rfl]
      unfold Op.equalIn
      cases u <;> simp only [isNilIface, Option.some.injEq, reduceCtorEq] at hb
      · subst hb; simp only [Sem.run_bind, run_underlying hu, Result.andThen_ok, Sem.run_pure]
      · subst hb; simp only [Sem.run_bind, run_underlying hu, Result.andThen_ok, Sem.run_pure]
    have eg : (eqGuard .neq xt x (.const .nilIface) u .nilIface).run P w = .ok () w := by
      unfold eqGuard
      cases u <;> simp only [isNilIface, Option.some.injEq, reduceCtorEq] at hb <;> cases x <;> rfl
    have eb : (binOp .neq xt u .nilIface).run P w = .ok (.bool !b) w := by
      cases u <;> simp only [isNilIface, Option.some.injEq, reduceCtorEq] at hb <;> simp [binOp, go_sem, e]
    simp only [execOp, Sem.run_bind, hρ.1, hρ.2, eg, eb, Result.andThen_ok, Sem.run_pure]
  · simp only [List.all_cons, List.all_nil, oneOpd_of hx rfl]; rfl
theorem raws_reps {E : Env} {h : Hp} {M : Bars} {w : World} : ∀ {us : List Value}, (∀ u ∈ us, u.oneCell' = true) → V.Reps E h M w (raws us) us
  | [], _ => by simp [raws, V.Reps]
  | u :: us, hu => by
    have := raws_reps (E := E) (h := h) (M := M) (w := w) (us := us) (fun x hx => hu x (by simp [hx]))
    simp only [raws, List.map_cons, V.Reps, V.Rep, D.RepV, D.Rep] at this ⊢
    exact ⟨u, us, rfl, ⟨rfl, hu u (by simp)⟩, this⟩
theorem keyss_raws : ∀ (us : List Value), V.keyss (raws us) = []
  | [] => rfl
  | u :: us => by simpa [raws, V.keyss, V.keys] using keyss_raws us
/-- Asked for the kind that it is. -/
theorem d_assert {x : Operand} {xt at_ : TypeId} {us : List Value} {cs : List V} {ds : TypeDesc} (hdn : Nat.blt d n = true) (hg : gOk ops fr g) (hx : oev fr x = .d (.raw (.iface at_ (.agg us.toArray)))) (hu : P.underlying at_ = some ds) (hi : notIface ds = true) (hus : us.all (·.oneCell') = true) (hcs : raws us = cs)
    (hr : dops P n dr ops rest (⟨(gIns ops g ++ insOf x (.d (.raw (.iface at_ (.agg us.toArray))))).map Prod.fst, [d], [], []⟩ :: log) K ((d, .tup [.agg cs, B true]) :: fr) h) : dops P n dr ops (⟨some d, .typeAssert x xt at_ true, ty, pos, after, g⟩ :: rest) log K fr h := by
  subst hcs
  refine dops_cons (ins := gIns ops g ++ insOf x (.d (.raw (.iface at_ (.agg us.toArray))))) (objs := []) (v := .tup [.agg (raws us), B true]) (upd := []) (LStep.pure rfl hdn rfl hg (insOf x _) [] _ fun G E fr' h' a w C hi' _ => ?_) (fun p hp => ?_) (by simp) hr
  · obtain ⟨r1, _⟩ := C.oev (oev_of hx hi') (oneOpd_spec (oneOpd_of hx rfl))
    simp only [V.Rep, D.RepV, D.Rep, List.cons.injEq, and_true] at r1
    have hone : ∀ u ∈ us, u.oneCell' = true := fun u hu => List.all_eq_true.1 hus u hu
    refine ⟨.tuple #[.agg us.toArray, .bool true], ?_, ?_, ?_⟩
    · cases ds <;> first
        | (simp [notIface] at hi; done)
        | simp [execOp, r1.1, Instr.typeAssert, Sem.run_bind, run_underlying hu, Result.andThen_ok, Sem.run_pure]
    · simp only [V.Rep, V.Reps]
      exact ⟨_, rfl, _, _, rfl, ⟨us, rfl, raws_reps hone, hone⟩, _, _, rfl, by simp [D.RepV, D.Rep, Value.oneCell'], rfl⟩
    · simp [V.keys, V.keyss, keyss_raws us]
  · rcases List.mem_append.1 hp with hp | hp
    · exact gOk_ins hg p hp
    · exact oev_ins hx p hp
/-- panic. -/
theorem d_panic {x : Operand} {t : TypeId} {v : Value} (extra : List (Nat × Option Ob)) (k : Nat) (hg : gOk ops fr g) (hx : oev fr x = .d (.raw (.iface t v))) (hex : ObjsOk h extra)
    (hpn : ∀ fr' h', ObjsOk h' extra → K (.panic [{ v := .iface t v, recovered := false }]) fr' h')
    (hr : dops P n dr ops rest (⟨(gIns ops g ++ insOf x (.d (.raw (.iface t v)))).map Prod.fst, [], extra.map Prod.fst, [k]⟩ :: log) K fr ((k, .box 0 [never]) :: h)) : dops P n dr ops (⟨none, .panic x, ty, pos, after, g⟩ :: rest) log K fr h := by
  refine dops_cons (ins := gIns ops g ++ insOf x (.d (.raw (.iface t v)))) (objs := extra) (v := .junk) (upd := [(k, .box 0 [never])]) ?_ (fun p hp => ?_) hex hr
  · intro G E fr' h' a w K Q hPan hn C hi ho hK
    have hgo : gOk ops fr' g := gOk_of hg (fun p hp => hi p (List.mem_append.2 (.inl hp)))
    obtain ⟨r1, _⟩ := C.oev (oev_of hx (fun p hp => hi p (List.mem_append.2 (.inr hp)))) (oneOpd_spec (oneOpd_of hx rfl))
    simp only [V.Rep, D.RepV, D.Rep, List.cons.injEq, and_true] at r1
    unfold wpS
    rw [if_pos (gOk_wanted C hgo)]
    refine .inl ?_
    unfold Oper.wp
    have he : (execOp a.eval ⟨none, .panic x, ty, pos, after, g⟩).run P w = .halt (.panic (.iface t v)) w := by
      simp only [execOp, r1.1, Instr.panic]
      rfl
    rw [he]
    exact hPan _ E fr' h' a w (hpn fr' h' ho) C
  · rcases List.mem_append.1 hp with hp | hp
    · exact gOk_ins hg p hp
    · exact oev_ins hx p hp
end
end Go.Proofs.Yticnpbopelgmiaa
namespace Go.Proofs.Yticnpbopelgmiaa
open Go.RowKit

/-- A deferred call: the objects are h' then, the caller's mode m' in place of m. -/
def ADefer (P : Program) (f : FuncId) (args : List V) (h : Hp) (m m' : FrameMode) (h' : Hp) : Prop :=
  ∀ (E : Env) (w : World) (us : List Value) (o : Bars), HRep E h o w → V.Reps E h (bars E h o) w args us → (∀ k ∈ V.keyss args, (hget h k).isSome = true) →
    (∀ t b, o t b → b < w.heap.size ∧ ¬ Live E h b) → (∀ b, o true b → o false b) →
    CallsD P f us.toArray m w fun e m'' w' => ∃ E' v, e = .returned v ∧ m'' = m' ∧ HRep E' h' o w' ∧ Ext (Live E h) w w' ∧ Hist E h E' h' ∧ (∀ k b, blkOf E' h' k b → Live E h b ∨ w.heap.size ≤ b)
section
variable {P : Program} {n : Nat}
/-- What recover gives, and the caller's mode then. -/
inductive Recovers : FrameMode → Value → FrameMode → Prop
  | nil : Recovers .returning .nilIface .returning
  | pan (v : Value) : Recovers (.panicking [{ v := v, recovered := false }]) v (.panicking [{ v := v, recovered := true }])
theorem ADefer.intro {f : FuncId} {fn : Func} {id : Nat} {rest : Code} {args : List V} {h h' : Hp} {m m' : FrameMode} {v : Value} {d1 d2 : Nat} {o1 o2 : Op} {ty1 ty2 : TypeId} {p1 p2 : String} {af1 af2 : Array Edge} (hf : P.funcs[f]? = some fn)
    (hb : fn.body = some (.seq (.region id #[⟨some d1, o1, ty1, p1, af1, none⟩, ⟨some d2, o2, ty2, p2, af2, none⟩] false) rest)) (hn : fn.ntmps = n) (ha : args.length ≤ n)
    (ho : ∀ (ρ : Operand → Value) (w : World), (execOp ρ ⟨some d1, o1, ty1, p1, af1, none⟩).run P w = .ok .recover w) (ho2 : ∀ (ρ : Operand → Value) (w : World), (execOp ρ ⟨some d2, o2, ty2, p2, af2, none⟩).run P w = .ok (.value (ρ (.tmp d1))) w) (h1 : Nat.blt d1 n = true) (h2 : Nat.blt d2 n = true) (hm : Recovers m v m') (hv : v.oneCell' = true) (hres : fn.results.toList = [])
    (hw : aw P n rest (Fin P fn (.tup []) h') ((d2, .d (.raw v)) :: (d1, .d (.raw v)) :: argFr 0 args) h) : ADefer P f args h m m' h' := by
  intro E w us o H hr hk hoo hs
  refine callsD_of_wpS hf hb fun c₀ cs hc₀ => wpS_seq (wpS_region ?_)
  have C := Conc.start (n := n) hn ha H hr hk hoo hs
  have hrv : ∀ {w' : World} {E' : Env} {g : Hp} {M : Bars}, V.Rep E' g M w' (.d (.raw v)) v := fun {w' E' g M} => by simp [V.Rep, D.RepV, D.Rep, hv]
  have C1 := C.put (d := d1) (v := .d (.raw v)) (u := v) (by simpa [Nat.blt_eq] using h1) hrv (by simp [V.keys])
  have C2 := C1.put (d := d2) (v := .d (.raw v)) (u := v) (by simpa [Nat.blt_eq] using h2) hrv (by simp [V.keys])
  have hget1 : ∀ (a : Act), a.tmps.size = n → (a.put (some d1) v).tmps.getD d1 undef = v := fun a ha => by rw [getD_put (by rw [ha]; simpa [Nat.blt_eq] using h1), if_pos rfl]
  generalize hA : ({ tmps := us.toArray ++ Array.replicate (fn.ntmps - us.toArray.size) undef, defers := [] } : Act) = a at *
  have fin : ∀ (cs' : List Frame), cs' = { c₀ with mode := m' } :: cs → rest.wpS P (bodyPostS P fn c₀ cs fun e m'' w' => ∃ E' v, e = .returned v ∧ m'' = m' ∧ HRep E' h' o w' ∧ Ext (Live E h) w w' ∧ Hist E h E' h' ∧ (∀ k b, blkOf E' h' k b → Live E h b ∨ w.heap.size ≤ b)) ((a.put (some d1) v).put (some d2) v) cs' w := by
    rintro cs' rfl
    refine wpS_of_wp (wp_mono (hw _ E _ w rfl C2) fun e a' w' ⟨E', fr', g, hq, C'⟩ => ?_)
    have key : (∃ vs, Results P fr' g fn.results.toList vs ∧ Co g (resV vs) (.tup []) ∧ HLe g h' ∧ ((V.tup []).inside h' && hpIn h' h') = true) → a'.defers = [] ∧ ∃ u', ({ c₀ with mode := m' } : Frame) :: cs = { c₀ with mode := u' } :: cs ∧ ∃ v, (results fn a'.tmps).run P w' = .ok v w' ∧
        ∃ E' v', Ending.returned v = .returned v' ∧ u' = m' ∧ HRep E' h' o w' ∧ Ext (Live E h) w w' ∧ Hist E h E' h' ∧ (∀ k b, blkOf E' h' k b → Live E h b ∨ w.heap.size ≤ b) := by
      rintro ⟨vs, k1, k2, k3, k4⟩
      simp only [Bool.and_eq_true] at k4
      obtain ⟨u, q1, q2, q3⟩ := results_run C' rfl k1
      refine ⟨C'.defers, m', rfl, u, q1, E', u, rfl, rfl, C'.heap.sub k3 k4.2, C'.ext, fun k hk hsm => ?_, fun k b hb => C'.fresh k b (k3.blkOf hb)⟩
      obtain ⟨g0, g1, g2, g3⟩ := C'.keep k hk (k3.isSome hsm)
      refine ⟨g0, g1, fun m hm => ?_, fun sz n hv => g3 sz n (k3.verRow hv)⟩
      obtain ⟨m1, l1, l2, l3⟩ := g2 m hm
      exact ⟨m1, k3.verAny hsm l1, l2, l3⟩
    cases e with
    | normal => exact key hq
    | ret => exact key hq
    | exit id => exact hq
    | goto l => exact hq
    | panic ch => exact hq.elim
    | outgrown => exact hq.elim
  have hsz : a.tmps.size = n := C.size
  have step2 : ∀ cs', cs' = { c₀ with mode := m' } :: cs → wpOpsS P #[⟨some d1, o1, ty1, p1, af1, none⟩, ⟨some d2, o2, ty2, p2, af2, none⟩] (Exit.thenS (rest.wpS P (bodyPostS P fn c₀ cs fun e m'' w' => ∃ E' v, e = .returned v ∧ m'' = m' ∧ HRep E' h' o w' ∧ Ext (Live E h) w w' ∧ Hist E h E' h' ∧ (∀ k b, blkOf E' h' k b → Live E h b ∨ w.heap.size ≤ b))) (bodyPostS P fn c₀ cs fun e m'' w' => ∃ E' v, e = .returned v ∧ m'' = m' ∧ HRep E' h' o w' ∧ Ext (Live E h) w w' ∧ Hist E h E' h' ∧ (∀ k b, blkOf E' h' k b → Live E h b ∨ w.heap.size ≤ b))) [1] (a.put (some d1) v) cs' w := by
    intro cs' hcs
    have hev : (execOp (a.put (some d1) v).eval ⟨some d2, o2, ty2, p2, af2, none⟩).run P w = .ok (.value v) w := by
      have := hget1 a hsz
      rw [ho2]
      simp only [Act.eval]
      rw [this]
    simp only [wpOpsS, List.getElem?_toArray, List.getElem?_cons_succ, List.getElem?_cons_zero, Region.wanted, if_true, hev]
    exact fin cs' hcs
  show wpOpsS P _ _ [0, 1] a (c₀ :: cs) w
  rw [wpOpsS]
  simp only [List.getElem?_toArray, List.getElem?_cons_zero, Region.wanted, if_true, ho]
  cases hm with
  | nil =>
    rw [show recoverD (c₀ :: cs) = none by simp [recoverD, hc₀]]
    refine step2 _ ?_
    rw [← hc₀]
  | pan v =>
    rw [show recoverD (c₀ :: cs) = some (v, { c₀ with mode := .panicking [{ v := v, recovered := true }] } :: cs) by simp [recoverD, hc₀]]
    exact step2 _ rfl
end
end Go.Proofs.Yticnpbopelgmiaa
namespace Go.Proofs.Yticnpbopelgmiaa
open Go.RowKit

section
variable {P : Program} {n : Nat}
variable {fn : Func} {r : V} {G : Ctx} {fr : Fr} {h : Hp}
theorem rep_out {E E' : Env} {h : Hp} {M M' : Bars} {w : World} {v : V} {u : Value} (hk : v.keys = []) (hM : ∀ t b, M' t b → M t b) (hr : V.Rep E h M w v u) : V.Rep E' [] M' w v u := by
  have T : Trans E h M w E' [] M' w := ⟨fun k _ hs => by simp [hget] at hs, fun k hs => by simp [hget] at hs, fun k _ sz n hv => by rcases hv with ⟨_, _, h1, _⟩ | ⟨_, _, _, _, h1, _⟩ <;> simp [hget] at h1, ⟨fun t k _ hm => ⟨rfl, fun hx => hm (hM t k hx)⟩, Nat.le_refl _⟩⟩
  exact V.Rep.move T (by rw [hk]; simp) (by rw [hk]; simp) hr
/-- How the rest ends, ahead of the deferred call in mode m. -/
def DFin (m : FrameMode) (frd : Fr) (hd : Hp) : Exit → Fr → Hp → Prop
  | .normal, fr, h | .ret, fr, h => Nev fr h ∨ (m = .returning ∧ FLe fr frd ∧ HLe h hd)
  | .panic ch, fr, h => m = .panicking ch ∧ FLe fr frd ∧ HLe h hd
  | _, _, _ => False
/-- A frame's slots under new numbers. -/
def FrRen (φ : List (Nat × Nat)) (fr : Fr) (d1 : Nat) : Fr → Prop
  | [] => True
  | (i, v) :: q => (Nat.beq i d1 = false ∧ fget fr i = v.ren φ) ∧ FrRen φ fr d1 q
theorem FrRen.get {φ : List (Nat × Nat)} {d1 : Nat} : ∀ {frc : Fr}, FrRen φ fr d1 frc → ∀ i, fget frc i = .junk ∨ (i ≠ d1 ∧ fget fr i = (fget frc i).ren φ)
  | [], _, _ => .inl rfl
  | (j, v) :: q, hq, i => by
    by_cases e : j = i
    · subst e; rw [fget_same]; exact .inr ⟨fun e => (by have := hq.1.1; rw [e, Nat.beq_refl] at this; cases this), hq.1.2⟩
    · rw [fget_other _ _ e]; exact FrRen.get hq.2 i
def ptrFr : List (Nat × Nat) → Fr
  | [] => []
  | (i, k) :: r => (i, .ptr k 0) :: ptrFr r
def ptrOk (h : Hp) : List (Nat × Nat) → Bool
  | [] => true
  | (_, k) :: r => Nat.ble 1000 k && hasKey h k && ptrOk h r
theorem ptrFr_get {h : Hp} : ∀ {l : List (Nat × Nat)}, ptrOk h l = true → ∀ i, fget (ptrFr l) i = .junk ∨ ∃ k, fget (ptrFr l) i = .ptr k 0 ∧ 1000 ≤ k ∧ (hget h k).isSome = true
  | [], _, _ => .inl rfl
  | (j, k) :: r, hq, i => by
    simp only [ptrOk, Bool.and_eq_true] at hq
    simp only [ptrFr]
    by_cases e : j = i
    · subst e; rw [fget_same]; exact .inr ⟨k, rfl, Nat.le_of_ble_eq_true hq.1.1, hasKey_spec.1 hq.1.2⟩
    · rw [fget_other _ _ e]; exact ptrFr_get hq.2 i
theorem ptrFr_in {h : Hp} : ∀ {l : List (Nat × Nat)}, ptrOk h l = true → frIn h (ptrFr l) = true
  | [], _ => rfl
  | (j, k) :: r, hq => by
    simp only [ptrOk, Bool.and_eq_true] at hq
    simp only [ptrFr, frIn, V.inside, Bool.and_eq_true]
    exact ⟨hq.1.2, ptrFr_in hq.2⟩
/-- Handed to the deferred call: pointers at objects. -/
def ptrs (ks : List Nat) : List V := ks.map fun k => .ptr k 0
theorem ptrs_reps {E : Env} {h : Hp} {M : Bars} {w : World} : ∀ (ks : List Nat), V.Reps E h M w (ptrs ks) (ks.map fun k => .pointer (some ⟨E.blk k, 0, none⟩))
  | [] => by simp [ptrs, V.Reps]
  | k :: ks => by
    have := ptrs_reps (E := E) (h := h) (M := M) (w := w) ks
    simp only [ptrs, List.map_cons, V.Reps, V.Rep] at this ⊢
    exact ⟨_, _, rfl, rfl, this⟩
theorem ptrs_keys : ∀ (ks : List Nat), V.keyss (ptrs ks) = ks
  | [] => rfl
  | k :: ks => by have := ptrs_keys ks; simp only [ptrs, List.map_cons, V.keyss, V.keys] at this ⊢; rw [this]; rfl
theorem ptrs_vals {E : Env} {h : Hp} {M : Bars} {w : World} : ∀ {ks : List Nat} {us : List Value}, V.Reps E h M w (ptrs ks) us → us = ks.map fun k => .pointer (some ⟨E.blk k, 0, none⟩)
  | [], us, hr => by simpa [ptrs, V.Reps] using hr
  | k :: ks, us, hr => by
    simp only [ptrs, List.map_cons, V.Reps, V.Rep] at hr
    obtain ⟨x, y, rfl, rfl, h3⟩ := hr
    rw [ptrs_vals h3]; rfl
def keysOk (h : Hp) (ks : List Nat) : Bool := ks.all fun k => Nat.ble 1000 k && hasKey h k
end
end Go.Proofs.Yticnpbopelgmiaa
