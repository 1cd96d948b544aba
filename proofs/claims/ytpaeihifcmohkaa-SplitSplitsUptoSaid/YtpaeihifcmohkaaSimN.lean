/-
  Sim: the rule of a call, in a region.
-/
import Derived.Test.YtpaeihifcmohkaaSimM
set_option linter.unusedVariables false
set_option linter.unusedSimpArgs false
namespace Go.Proofs.Ytpaeihifcmohkaa
open Go.RowKit

section
variable {φ : List (Nat × Nat)} {G : Ctx} {E : Env} {fr : Fr} {h : Hp} {a : Act} {w : World}
theorem CArg.rep {v c : V} {o : List (Nat × Option Ob)} {f fz : Hp} {W Wall : List Nat} (ha : CArg φ h v c o f W) (C : Conc G E fr (fz ++ h) a w) (hf : FzOk h fz) (hsub : ∀ p ∈ f, p ∈ fz) (hW : ∀ k ∈ W, k ∈ Wall) (hWf : ∀ k ∈ W, k ∉ fz.map Prod.fst)
    {Ec : Env} {hc : Hp} {M : Bars} (L : Link φ Ec hc E (fz ++ h)) (hA : Allow false (bars E (fz ++ h) G.o) M) (hv : ∀ k ∈ Wall, ∀ b, blkOf E (fz ++ h) k = some b → ¬ M true b) (hck : ∀ k ∈ c.keys, (hget hc k).isSome = true) {u : Value} (hr : V.Rep E (fz ++ h) (bars E (fz ++ h) G.o) w v u) : V.Rep Ec hc M w c u := by
  cases ha with
  | same hv => subst hv; exact V.Rep.unren L hA hck hr
  | emb he =>
    have := he.co hf hsub _ _ _ _ C.heap C.sub hr
    simp only [V.Rep] at this ⊢
    exact this.allow hA (by simp)
  | @vwd x y hy =>
    subst hy
    have := Co.view x _ _ _ _ C.heap C.sub hr
    simp only [V.Rep] at this ⊢
    exact this.allow hA (by simp)
  | @vw k n sz e xs ys hk hn hy =>
    subst hy
    have hk' : hget (fz ++ h) k = some (.row e sz xs) := by
      rw [hget_append, hget_none (hWf k (by simp))]; exact hk
    simp only [V.Rep] at hr
    obtain ⟨m, h1, _, _, h3⟩ := hr
    have e1 := verAny_one h1 (.inl ⟨e, sz, xs, hk', hn⟩)
    rw [h3 e1.symm]
    have hrow := C.heap.obs k _ hk'
    simp only [ObRep] at hrow
    simp only [V.Rep, D.RepV]
    obtain ⟨ad, cap, q1, q2, q3⟩ := hrow.shape
    have hM : ∀ j, bars E (fz ++ h) G.o true j → bars E (fz ++ h) G.o false j := fun j hj => by
      rcases hj with hj | hj
      · exact .inl hj
      · exact .inr (C.sub j hj)
    have hvl : (D.views xs).length = xs.length := by simp [D.views_map]
    have hvs : ∀ x ∈ D.views xs, x.size = sz := fun x hx => by
      rw [D.views_map] at hx
      obtain ⟨y, hy, rfl⟩ := List.mem_map.1 hx
      rw [D.view_size]; exact hrow.1 y hy
    simp only [D.Rep, hvl]
    by_cases hne : xs = []
    · subst hne
      exact ⟨ad, cap, [], by simp [q1], by simp, q3, by simp [D.views], by simp [D.views, D.Reps], by simp [D.views]⟩
    · obtain ⟨gb, off, cap', us, k1, k2, k3, k4, k5, k6⟩ := hrow.cells hne
      rw [q1] at k1
      simp only [Value.slice.injEq] at k1
      obtain ⟨rfl, _, rfl⟩ := k1
      refine ⟨_, cap, us, by rw [q1], q2, q3, hvs, (k3.view hM).allow hA (by simp), fun _ => ⟨gb, off, rfl, ?_, k5, k6⟩⟩
      exact hv k (hW k (by simp)) gb (by simp [blkOf, hk', k2])
theorem CArgs.rep {fz : Hp} {Wall : List Nat} {Ec : Env} {hc : Hp} {M : Bars} (C : Conc G E fr (fz ++ h) a w) (hf : FzOk h fz) (L : Link φ Ec hc E (fz ++ h)) (hA : Allow false (bars E (fz ++ h) G.o) M) (hv : ∀ k ∈ Wall, ∀ b, blkOf E (fz ++ h) k = some b → ¬ M true b) :
    ∀ {vs cs : List V} {o : List (Nat × Option Ob)} {f : Hp} {W : List Nat} {us : List Value}, CArgs φ h vs cs o f W → (∀ p ∈ f, p ∈ fz) → (∀ k ∈ W, k ∈ Wall) → (∀ k ∈ W, k ∉ fz.map Prod.fst) → (∀ k ∈ V.keyss cs, (hget hc k).isSome = true) →
      V.Reps E (fz ++ h) (bars E (fz ++ h) G.o) w vs us → V.Reps Ec hc M w cs us := by
  intro vs cs o f W us ha
  induction ha generalizing us with
  | nil => intro _ _ _ _ r; simpa only [V.Reps] using r
  | cons h1 _ ih =>
    intro hs hW hWf hck r
    simp only [V.Reps] at r ⊢
    obtain ⟨x, y, rfl, r1, r2⟩ := r
    exact ⟨x, y, rfl, h1.rep C hf (fun p hp => hs p (List.mem_append.2 (.inl hp))) (fun k hk => hW k (List.mem_append.2 (.inl hk))) (fun k hk => hWf k (List.mem_append.2 (.inl hk))) L hA hv (fun k hk => hck k (by simp [V.keyss, hk])) r1,
      ih (fun p hp => hs p (List.mem_append.2 (.inr hp))) (fun k hk => hW k (List.mem_append.2 (.inr hk))) (fun k hk => hWf k (List.mem_append.2 (.inr hk))) (fun k hk => hck k (by simp [V.keyss, hk])) r2⟩
theorem CArg.vwRow {v c : V} {o : List (Nat × Option Ob)} {f : Hp} {W : List Nat} (ha : CArg φ h v c o f W) : ∀ k ∈ W, ∃ e sz xs, hget h k = some (.row e sz xs) := by
  cases ha with
  | vw hk hn _ => intro k hk'; simp at hk'; subst hk'; exact ⟨_, _, _, hk⟩
  | _ => simp
theorem CArgs.vwRow {v c : List V} {o : List (Nat × Option Ob)} {f : Hp} {W : List Nat} (ha : CArgs φ h v c o f W) : ∀ k ∈ W, ∃ e sz xs, hget h k = some (.row e sz xs) := by
  induction ha with
  | nil => simp
  | cons h1 _ ih =>
    intro k hk
    rcases List.mem_append.1 hk with hk | hk
    · exact h1.vwRow k hk
    · exact ih k hk
end

section
variable {P : Program} {n : Nat} {dr : Bool} {ops : Array Oper} {rest : List Oper} {log : List Rec} {K : Fr → Hp → Prop} {fr : Fr} {h : Hp}
variable {ty : TypeId} {pos : String} {after : Array Edge} {g : Option (Nat × Bool)}
theorem execCall {fop : Operand} {xs : List Operand} {ats : Array TypeId} {dst : Option Tmp} {f : FuncId} (hf : FnOk P f) (ρ : Operand → Value) (cs : List Value) (hv : ρ fop = .func (.func f) #[] cs.toArray) (w : World) :
    (execOp ρ ⟨dst, .call { callee := .value fop, args := xs.toArray, argTypes := ats }, ty, pos, after, g⟩).run P w = .ok (.enter f (xs.map ρ ++ cs).toArray) w := by
  obtain ⟨fn, h1, h2, h3⟩ := hf
  have e1 : ¬ (fn.name = "runtime.NumGoroutine") := by simpa using h2
  have e3 : ¬ (fn.body = none) := fun e => by rw [e] at h3; cases h3
  simp [execOp, resolve, hv, Deferred.ofValue, invoke, callFunc, h1, e1, e3]
def callObjs (φ : List (Nat × Nat)) (hc hc' : Hp) (objs : List (Nat × Option Ob)) : List (Nat × Option Ob) := linkObjs φ hc ++ ((newKeys φ hc hc').map (fun k => (k, none)) ++ objs)
def dstOk (n : Nat) : Option Tmp → Bool
  | some d => Nat.blt d n
  | none => true
theorem d_call {dst : Option Tmp} {fop : Operand} {xs : List Operand} {args : Array Operand} {ats : Array TypeId} {vs caps cargs : List V} {f : FuncId} {hc hc' : Hp} {r : V} (φ : List (Nat × Nat)) {objs : List (Nat × Option Ob)} {fz : Hp} {W : List Nat}
    (hg : gOk ops fr g) (hd : dstOk n dst = true) (hxs : args.toList = xs) (hf : oev fr fop = .fn (.func f) [] caps) (hx : oevs fr xs vs) (h1 : xs.all oneOpd = true) (hA : ACalls P f cargs hc r hc') (ha : CArgs φ h (vs ++ caps) cargs objs fz W)
    (hlink : LinkH h φ hc) (hnew : NewH h (newKeys φ hc hc')) (hok : callOk φ hc hc' fz W = true) (hin : (hpIn hc hc && V.insides hc cargs) = true) (hcl : W = [] ∨ (r.clean ∧ HpClean hc')) {fr' : Fr} {h' : Hp} (hfr : dput dst (r.ren φ) fr = fr') (hh : (Hp.ren φ hc' ++ fz) ++ h = h')
    (hr : dops P n dr ops rest (⟨(gIns ops g ++ (insOf fop (.fn (.func f) [] caps) ++ insAll xs vs)).map Prod.fst, dst.toList, (callObjs φ hc hc' objs).map Prod.fst, (Hp.ren φ hc' ++ fz).map Prod.fst⟩ :: log) K fr' h') :
    dops P n dr ops (⟨dst, .call { callee := .value fop, args := args, argTypes := ats }, ty, pos, after, g⟩ :: rest) log K fr h := by
  have hargs : args = xs.toArray := by rw [← hxs]
  subst hargs
  subst hfr
  subst hh
  simp only [Bool.and_eq_true] at hin
  have hnewo : ObjsOk h ((newKeys φ hc hc').map (fun k => (k, (none : Option Ob)))) := fun p hp => by
    obtain ⟨k, hk, rfl⟩ := List.mem_map.1 hp
    exact hnew.get k hk
  refine dops_cons (ins := gIns ops g ++ (insOf fop (.fn (.func f) [] caps) ++ insAll xs vs)) (objs := callObjs φ hc hc' objs) (v := r.ren φ) (upd := Hp.ren φ hc' ++ fz) ?_ (ins_of hg (fun p hp => (List.mem_append.1 hp).elim (oev_ins hf p) (oevs_ins hx p)))
    (ObjsOk.append.2 ⟨LinkH.iff.1 hlink, ObjsOk.append.2 ⟨hnewo, ha.objs⟩⟩) hr
  intro G E fr' h' a w K Q hn C hi ho hK
  have hgo : gOk ops fr' g := gOk_of hg (fun p hp => hi p (List.mem_append.2 (.inl hp)))
  have ho' := ObjsOk.append.1 (show ObjsOk h' (callObjs φ hc hc' objs) from ho)
  have ho'' := ObjsOk.append.1 ho'.2
  have ha' := ha.of ho''.2
  have hlink' : LinkH h' φ hc := LinkH.iff.2 ho'.1
  have hf' := oev_of hf (fun p hp => hi p (List.mem_append.2 (.inr (List.mem_append.2 (.inl hp)))))
  have hx' := oevs_of hx (fun p hp => hi p (List.mem_append.2 (.inr (List.mem_append.2 (.inr hp)))))
  simp only [callOk, Bool.and_eq_true] at hok
  obtain ⟨⟨⟨⟨⟨⟨c1, c2⟩, c3⟩, c4⟩, c5⟩, c6⟩, c7⟩ := hok
  have C1 := C.frozs ha'.fz
  have hoff : ∀ k, (∀ p ∈ fz, p.1 ≠ k) → hget (fz ++ h') k = hget h' k := fun k hk => by
    rw [hget_append, hget_none (fun hm => by obtain ⟨p, hp, e⟩ := List.mem_map.1 hm; exact hk p hp e)]
  have hlinkz : LinkH (fz ++ h') φ hc := by
    refine LinkH.iff.2 (fun p hp => ?_)
    rw [hoff p.1 (fun q hq e => ?_)]
    · exact ho'.1 p hp
    · have hmem : ∀ {l : Hp}, p ∈ linkObjs φ l → ∃ q ∈ l, renK φ q.1 = p.1 := by
        intro l
        induction l with
        | nil => intro hp; simp [linkObjs] at hp
        | cons q l ih =>
          intro hp
          obtain ⟨j, ob⟩ := q
          simp only [linkObjs, List.mem_cons] at hp
          rcases hp with rfl | hp
          · exact ⟨_, List.mem_cons_self, rfl⟩
          · obtain ⟨q, hq, e⟩ := ih hp; exact ⟨q, List.mem_cons_of_mem _ hq, e⟩
      obtain ⟨q', hq', e'⟩ := hmem hp
      have := List.all_eq_true.1 (List.all_eq_true.1 c5 q hq) q' hq'
      rw [e, e', Nat.beq_refl] at this
      simp at this
  have hnewz : NewH (fz ++ h') (newKeys φ hc hc') := by
    have key : ∀ (l : List Nat), (∀ k ∈ l, hget h' k = none) → NewH (fz ++ h') l := by
      intro l
      induction l with
      | nil => intro _; trivial
      | cons k l ih =>
        intro hl
        refine ⟨?_, ih (fun j hj => hl j (List.mem_cons_of_mem _ hj))⟩
        rw [hoff k (fun p hp e => ?_)]
        · exact hl k List.mem_cons_self
        · obtain ⟨_, _, _, _, q⟩ := ha'.fz p hp
          rw [e, hl k List.mem_cons_self] at q; cases q
    exact key _ (fun k hk => ho''.1 (k, none) (List.mem_map.2 ⟨k, hk, rfl⟩))
  have hWf : ∀ k ∈ W, k ∉ fz.map Prod.fst := fun k hk hm => by
    obtain ⟨p, hp, rfl⟩ := List.mem_map.1 hm
    have := List.all_eq_true.1 (List.all_eq_true.1 c7 p hp) _ hk
    simp at this
  obtain ⟨r1, _⟩ := C1.oev hf' (oneOpd_spec (oneOpd_of hf rfl))
  obtain ⟨r2, _⟩ := oevs_rep C1 hx' h1
  simp only [V.Rep] at r1
  obtain ⟨af, cf, e1, e2, e3⟩ := r1
  simp only [V.Reps] at e2
  subst e2
  have hus := r2.append e3
  have hcall := C1.call hA φ W hlinkz hnewz c1 hin.1 c2 c3 c4 (fun k hk => ⟨?_, fun q hq e => ?_⟩) hcl (us := xs.map a.eval ++ cf) (fun Ec M L hAl hvw => ha'.rep C1 ha'.fz L hAl hvw (fun _ hp => hp) (fun _ hk => hk) hWf (V.insides_spec hin.2) hus) (V.insides_spec hin.2)
  · unfold wpS
    rw [if_pos (gOk_wanted (o := ⟨dst, _, ty, pos, after, g⟩) C hgo)]
    refine .inl ?_
    unfold Oper.wp
    rw [execCall hA.1 a.eval cf e1]
    simp only [Oper.upon]
    refine hcall.mono ?_
    rintro e w' ⟨E', u, rfl, C', hru, hku⟩
    refine hK E' _ w' ?_
    rw [List.append_assoc]
    cases dst with
    | none => exact C'.putNone _
    | some d => exact C'.put (by rw [hn]; simpa [dstOk, Nat.blt_eq] using hd) hru hku
  · obtain ⟨e, sz, xs', q⟩ := ha'.vwRow k hk
    exact ⟨e, sz, xs', by rw [hoff k (fun p hp e => hWf k hk (List.mem_map.2 ⟨p, hp, e⟩))]; exact q⟩
  · have := List.all_eq_true.1 (List.all_eq_true.1 c6 k hk) q hq
    rw [e, Nat.beq_refl] at this
    simp at this
end
end Go.Proofs.Ytpaeihifcmohkaa
