/-
  Sim: calls that panic. Sim: interface values that are raw: made, compared with nil, asked for their kind; panic. Sim: functions with one deferred call; the deferred call's own contract, with recover. Sim: the walk of a function with one deferred call. Sim: a call that panics, and the region's rest. Forest, the program: tree, kids. Forest, the program: kids. Forest, the program: the tree of a number, whole; open. Sim: a function with one deferred call that is handed objects. Forest, the program: open, at. Forest, the program: At, List. Forest, the program: List.
-/
import Derived.Test.YticnpbopelgmiaaS5
import Derived.Test.YticnpbopelgmiaaS4
import Derived.Recover
import Derived.Test.YticnpbopelgmiaaFoP
import Derived.Test.YticnpbopelgmiaaQSmN
set_option linter.unusedVariables false
set_option linter.unusedSimpArgs false
set_option linter.unusedSectionVars false
namespace Go.Proofs.Yticnpbopelgmiaa
open Go.RowKit

section
variable {P : Program} {n : Nat} {Q : Exit → Fr → Hp → Prop} {fr : Fr} {h : Hp}
theorem Conc.never {G : Ctx} {E : Env} {a : Act} {w : World} (C : Conc G E fr h a w) {i : Nat} (hi : fget fr i = never) : False := by
  have := C.frame i
  rw [hi] at this
  simp only [never, V.Rep] at this
  obtain ⟨_, _, _, _, h2, _⟩ := this
  simp at h2
/-- A state that does not come. -/
def Nev (fr : Fr) (h : Hp) : Prop := (∃ i, fget fr i = never) ∨ ∃ k ty, hget h k = some (.box ty [never])
theorem Nev.obj {fr : Fr} {h : Hp} (k : Nat) {ty : TypeId} (hk : hget h k = some (.box ty [never])) : Nev fr h := .inr ⟨k, ty, hk⟩
theorem Conc.nev {G : Ctx} {E : Env} {a : Act} {w : World} (C : Conc G E fr h a w) (hv : Nev fr h) : False := by
  rcases hv with ⟨i, hi⟩ | ⟨k, ty, hk⟩
  · exact C.never hi
  · obtain ⟨us, _, g2, _⟩ := C.heap.obs k _ hk
    simp only [V.Reps, never, V.Rep] at g2
    obtain ⟨_, _, _, ⟨_, _, _, _, h2, _⟩, _⟩ := g2
    simp at h2
/-- Where a call begins. -/
theorem Conc.start {fn : Func} {args : List V} {us : List Value} {E : Env} {o : Bars} {w : World} (hn : fn.ntmps = n) (ha : args.length ≤ n) (H : HRep E h o w) (hr : V.Reps E h (bars E h o) w args us) (hk : ∀ k ∈ V.keyss args, (hget h k).isSome = true)
    (ho : ∀ t b, o t b → b < w.heap.size ∧ ¬ Live E h b) (hs : ∀ b, o true b → o false b) : Conc ⟨n, w, Live E h, E, h, o, []⟩ E (argFr 0 args) h { tmps := us.toArray ++ Array.replicate (fn.ntmps - us.toArray.size) undef, defers := [] } w := by
  have hl := hr.length
  refine ⟨by simp [hn]; omega, rfl, fun i => ?_, H, fun i k hi => hk k (argFr_keys args 0 i k hi), Ext.refl _ _, fun k b hb => .inl ⟨k, hb⟩, fun k hk hsm => ⟨hsm, rfl, fun m hm => ⟨m, hm, Nat.le_refl _, fun _ => rfl⟩, fun sz n hv => ⟨n, hv⟩⟩, ho, hs⟩
  have := argFr_get hr 0 i
  rw [if_pos (Nat.zero_le _), Nat.sub_zero] at this
  have e : (us.toArray ++ Array.replicate (fn.ntmps - us.toArray.size) undef).getD i undef = us.getD i undef := by
    simp only [Array.getD_eq_getD_getElem?, List.getD_eq_getElem?_getD]
    rw [Array.getElem?_append]
    simp only [List.size_toArray, List.getElem?_toArray, Array.getElem?_replicate]
    by_cases h1 : i < us.length
    · rw [if_pos h1]
    · rw [if_neg h1, List.getElem?_eq_none (by omega)]
      split <;> rfl
  show V.Rep E h (bars E h o) w _ ((us.toArray ++ Array.replicate (fn.ntmps - us.toArray.size) undef).getD i undef)
  rw [e]; exact this
/-- How a function ends that panics. -/
def PFin (u : Value) (h' : Hp) : Exit → Fr → Hp → Prop
  | .panic ch, _, h => ch = [{ v := u, recovered := false }] ∧ HLe h h' ∧ hpIn h' h' = true
  | .normal, fr, h | .ret, fr, h => Nev fr h
  | _, _, _ => False
/-- A panic's contract, from the walk through its body. -/
theorem APan.intro {f : FuncId} {fn : Func} {c : Code} {args : List V} {u : Value} {h' : Hp} (hf : P.funcs[f]? = some fn) (hb : fn.body = some c) (hn : fn.ntmps = n) (ha : args.length ≤ n) (hnm : (fn.name == "runtime.NumGoroutine") = false) (hu : u.oneCell' = true)
    (hw : aw P n c (PFin u h') (argFr 0 args) h) : APan P f args h u h' := by
  refine ⟨⟨fn, hf, hnm, by rw [hb]; rfl⟩, ?_⟩
  intro E w us o H hr hk ho hs
  refine calls_of_wp hf hb ?_
  refine wp_mono (hw _ E _ w rfl (Conc.start hn ha H hr hk ho hs)) fun e a w' ⟨E', fr', g, hq, C'⟩ => ?_
  cases e with
  | normal => exact (C'.nev hq).elim
  | ret => exact (C'.nev hq).elim
  | exit id => exact hq
  | goto l => exact hq
  | panic ch =>
    obtain ⟨rfl, k3, k4⟩ := hq
    refine ⟨C'.defers, E', u, rfl, ?_, by simp [V.Rep, D.RepV, D.Rep, hu], by simp [V.keys], ?_, fun k hk hsm => ?_, fun k b hb => ?_⟩
    · exact C'.heap.sub k3 k4
    · exact C'.ext
    · obtain ⟨g0, g1, g2, g3⟩ := C'.keep k hk (k3.isSome hsm)
      refine ⟨g0, g1, fun m hm => ?_, fun sz n hv => g3 sz n (k3.verRow hv)⟩
      obtain ⟨m', l1, l2, l3⟩ := g2 m hm
      exact ⟨m', k3.verAny hsm l1, l2, l3⟩
    · exact C'.fresh k b (k3.blkOf hb)
  | outgrown => exact hq.elim
end

section
variable {P : Program} {n : Nat} {dr : Bool} {ops : Array Oper} {rest : List Oper} {log : List Rec} {K : Exit → Fr → Hp → Prop} {fr : Fr} {h : Hp}
variable {ty : TypeId} {pos : String} {after : Array Edge} {g : Option (Nat × Bool)}
end
end Go.Proofs.Yticnpbopelgmiaa
namespace Go.Proofs.Yticnpbopelgmiaa
open Go.RowKit

section
variable {P : Program} {n : Nat} {dr : Bool} {ops : Array Oper} {rest : List Oper} {log : List Rec} {K : Exit → Fr → Hp → Prop} {fr : Fr} {h : Hp}
variable {d : Nat} {ty : TypeId} {pos : String} {after : Array Edge} {g : Option (Nat × Bool)}
end
end Go.Proofs.Yticnpbopelgmiaa
namespace Go.Proofs.Yticnpbopelgmiaa
open Go.RowKit

/-- A deferred call: the objects are h' then, the caller's mode m' in place of m. -/
def ADefer (P : Program) (f : FuncId) (args : List V) (h : Hp) (m m' : FrameMode) (h' : Hp) : Prop :=
  ∀ (E : Env) (w : World) (us : List Value) (o : Bars), HRep E h o w → V.Reps E h (bars E h o) w args us → (∀ k ∈ V.keyss args, (hget h k).isSome = true) →
    (∀ t b, o t b → b < w.heap.size ∧ ¬ Live E h b) → (∀ b, o true b → o false b) →
    CallsD P f us.toArray m w fun e m'' w' => ∃ E' v, e = .returned v ∧ m'' = m' ∧ HRep E' h' o w' ∧ Ext (Live E h) w w' ∧ Hist E h E' h' ∧ (∀ k b, blkOf E' h' k b → Live E h b ∨ w.heap.size ≤ b)
section
variable {P : Program} {n : Nat}
/-- What recover gives, and the caller's mode then. -/
inductive Recovers : FrameMode → Value → FrameMode → Prop
  | nil : Recovers .returning .nilIface .returning
  | pan (v : Value) : Recovers (.panicking [{ v := v, recovered := false }]) v (.panicking [{ v := v, recovered := true }])
theorem ADefer.intro {f : FuncId} {fn : Func} {id : Nat} {rest : Code} {args : List V} {h h' : Hp} {m m' : FrameMode} {v : Value} {d1 d2 : Nat} {o1 o2 : Op} {ty1 ty2 : TypeId} {p1 p2 : String} {af1 af2 : Array Edge} (hf : P.funcs[f]? = some fn)
    (hb : fn.body = some (.seq (.region id #[⟨some d1, o1, ty1, p1, af1, none⟩, ⟨some d2, o2, ty2, p2, af2, none⟩] false) rest)) (hn : fn.ntmps = n) (ha : args.length ≤ n)
    (ho : ∀ (ρ : Operand → Value) (w : World), (execOp ρ ⟨some d1, o1, ty1, p1, af1, none⟩).run P w = .ok .recover w) (ho2 : ∀ (ρ : Operand → Value) (w : World), (execOp ρ ⟨some d2, o2, ty2, p2, af2, none⟩).run P w = .ok (.value (ρ (.tmp d1))) w) (h1 : Nat.blt d1 n = true) (h2 : Nat.blt d2 n = true) (hm : Recovers m v m') (hv : v.oneCell' = true) (hres : fn.results.toList = [])
    (hw : aw P n rest (Fin P fn (.tup []) h') ((d2, .d (.raw v)) :: (d1, .d (.raw v)) :: argFr 0 args) h) : ADefer P f args h m m' h' := by
  intro E w us o H hr hk hoo hs
  refine callsD_of_wpS hf hb fun c₀ cs hc₀ => wpS_seq (wpS_region ?_)
  have C := Conc.start (n := n) hn ha H hr hk hoo hs
  have hrv : ∀ {w' : World} {E' : Env} {g : Hp} {M : Bars}, V.Rep E' g M w' (.d (.raw v)) v := fun {w' E' g M} => by simp [V.Rep, D.RepV, D.Rep, hv]
  have C1 := C.put (d := d1) (v := .d (.raw v)) (u := v) (by simpa [Nat.blt_eq] using h1) hrv (by simp [V.keys])
  have C2 := C1.put (d := d2) (v := .d (.raw v)) (u := v) (by simpa [Nat.blt_eq] using h2) hrv (by simp [V.keys])
  have hget1 : ∀ (a : Act), a.tmps.size = n → (a.put (some d1) v).tmps.getD d1 undef = v := fun a ha => by rw [getD_put (by rw [ha]; simpa [Nat.blt_eq] using h1), if_pos rfl]
  generalize hA : ({ tmps := us.toArray ++ Array.replicate (fn.ntmps - us.toArray.size) undef, defers := [] } : Act) = a at *
  have fin : ∀ (cs' : List Frame), cs' = { c₀ with mode := m' } :: cs → rest.wpS P (bodyPostS P fn c₀ cs fun e m'' w' => ∃ E' v, e = .returned v ∧ m'' = m' ∧ HRep E' h' o w' ∧ Ext (Live E h) w w' ∧ Hist E h E' h' ∧ (∀ k b, blkOf E' h' k b → Live E h b ∨ w.heap.size ≤ b)) ((a.put (some d1) v).put (some d2) v) cs' w := by
    rintro cs' rfl
    refine wpS_of_wp (wp_mono (hw _ E _ w rfl C2) fun e a' w' ⟨E', fr', g, hq, C'⟩ => ?_)
    have key : (∃ vs, Results P fr' g fn.results.toList vs ∧ Co g (resV vs) (.tup []) ∧ HLe g h' ∧ ((V.tup []).inside h' && hpIn h' h') = true) → a'.defers = [] ∧ ∃ u', ({ c₀ with mode := m' } : Frame) :: cs = { c₀ with mode := u' } :: cs ∧ ∃ v, (results fn a'.tmps).run P w' = .ok v w' ∧
        ∃ E' v', Ending.returned v = .returned v' ∧ u' = m' ∧ HRep E' h' o w' ∧ Ext (Live E h) w w' ∧ Hist E h E' h' ∧ (∀ k b, blkOf E' h' k b → Live E h b ∨ w.heap.size ≤ b) := by
      rintro ⟨vs, k1, k2, k3, k4⟩
      simp only [Bool.and_eq_true] at k4
      obtain ⟨u, q1, q2, q3⟩ := results_run C' rfl k1
      refine ⟨C'.defers, m', rfl, u, q1, E', u, rfl, rfl, C'.heap.sub k3 k4.2, C'.ext, fun k hk hsm => ?_, fun k b hb => C'.fresh k b (k3.blkOf hb)⟩
      obtain ⟨g0, g1, g2, g3⟩ := C'.keep k hk (k3.isSome hsm)
      refine ⟨g0, g1, fun m hm => ?_, fun sz n hv => g3 sz n (k3.verRow hv)⟩
      obtain ⟨m1, l1, l2, l3⟩ := g2 m hm
      exact ⟨m1, k3.verAny hsm l1, l2, l3⟩
    cases e with
    | normal => exact key hq
    | ret => exact key hq
    | exit id => exact hq
    | goto l => exact hq
    | panic ch => exact hq.elim
    | outgrown => exact hq.elim
  have hsz : a.tmps.size = n := C.size
  have step2 : ∀ cs', cs' = { c₀ with mode := m' } :: cs → wpOpsS P #[⟨some d1, o1, ty1, p1, af1, none⟩, ⟨some d2, o2, ty2, p2, af2, none⟩] (Exit.thenS (rest.wpS P (bodyPostS P fn c₀ cs fun e m'' w' => ∃ E' v, e = .returned v ∧ m'' = m' ∧ HRep E' h' o w' ∧ Ext (Live E h) w w' ∧ Hist E h E' h' ∧ (∀ k b, blkOf E' h' k b → Live E h b ∨ w.heap.size ≤ b))) (bodyPostS P fn c₀ cs fun e m'' w' => ∃ E' v, e = .returned v ∧ m'' = m' ∧ HRep E' h' o w' ∧ Ext (Live E h) w w' ∧ Hist E h E' h' ∧ (∀ k b, blkOf E' h' k b → Live E h b ∨ w.heap.size ≤ b))) [1] (a.put (some d1) v) cs' w := by
    intro cs' hcs
    have hev : (execOp (a.put (some d1) v).eval ⟨some d2, o2, ty2, p2, af2, none⟩).run P w = .ok (.value v) w := by
      have := hget1 a hsz
      rw [ho2]
      simp only [Act.eval]
      rw [this]
    simp only [wpOpsS, List.getElem?_toArray, List.getElem?_cons_succ, List.getElem?_cons_zero, Region.wanted, if_true, hev]
    exact fin cs' hcs
  show wpOpsS P _ _ [0, 1] a (c₀ :: cs) w
  rw [wpOpsS]
  simp only [List.getElem?_toArray, List.getElem?_cons_zero, Region.wanted, if_true, ho]
  cases hm with
  | nil =>
    rw [show recoverD (c₀ :: cs) = none by simp [recoverD, hc₀]]
    refine step2 _ ?_
    rw [← hc₀]
  | pan v =>
    rw [show recoverD (c₀ :: cs) = some (v, { c₀ with mode := .panicking [{ v := v, recovered := true }] } :: cs) by simp [recoverD, hc₀]]
    exact step2 _ rfl
end
end Go.Proofs.Yticnpbopelgmiaa
namespace Go.Proofs.Yticnpbopelgmiaa
open Go.RowKit

section
variable {P : Program} {n : Nat}
variable {fn : Func} {r : V} {G : Ctx} {fr : Fr} {h : Hp}
/-- A frame's slots under new numbers. -/
def FrRen (φ : List (Nat × Nat)) (fr : Fr) (d1 : Nat) : Fr → Prop
  | [] => True
  | (i, v) :: q => (Nat.beq i d1 = false ∧ fget fr i = v.ren φ) ∧ FrRen φ fr d1 q
theorem FrRen.get {φ : List (Nat × Nat)} {d1 : Nat} : ∀ {frc : Fr}, FrRen φ fr d1 frc → ∀ i, fget frc i = .junk ∨ (i ≠ d1 ∧ fget fr i = (fget frc i).ren φ)
  | [], _, _ => .inl rfl
  | (j, v) :: q, hq, i => by
    by_cases e : j = i
    · subst e; rw [fget_same]; exact .inr ⟨fun e => (by have := hq.1.1; rw [e, Nat.beq_refl] at this; cases this), hq.1.2⟩
    · rw [fget_other _ _ e]; exact FrRen.get hq.2 i
end
end Go.Proofs.Yticnpbopelgmiaa
namespace Go.Proofs.Yticnpbopelgmiaa
open Go.RowKit

end Go.Proofs.Yticnpbopelgmiaa
namespace Go.Proofs.Yticnpbopelgmiaa
open Go.RowKit
set_option maxRecDepth 100000
-- SimX

section
variable {P : Program} {n : Nat} {dr : Bool} {ops : Array Oper} {rest : List Oper} {log : List Rec} {K : Exit → Fr → Hp → Prop} {fr : Fr} {h : Hp}
variable {d : Nat} {ty : TypeId} {pos : String} {after : Array Edge} {g : Option (Nat × Bool)}
end
section
variable {t : Bool} {g : Gram} {w : List Int}
end
end Go.Proofs.Yticnpbopelgmiaa
namespace Go.Proofs.Yticnpbopelgmiaa
open Go.RowKit
set_option maxRecDepth 100000
-- SimX

section
variable {t : Bool} {g : Gram} {w : List Int}
end
end Go.Proofs.Yticnpbopelgmiaa
namespace Go.Proofs.Yticnpbopelgmiaa
open Go.RowKit
set_option maxRecDepth 100000
-- SimX

section
variable {t : Bool} {g : Gram} {w : List Int}
/-- How many trees there are. -/
def cntF (g : Gram) (w : List Int) : Nat := wcns g w manyC g.start.toNat 0 w.length
/-- What open says. -/
def opF (g : Gram) (w : List Int) : Fault := if (chF g w).code = 0 then (if cntF g w = manyC then ⟨6, -1⟩ else ⟨0, 0⟩) else chF g w
end
end Go.Proofs.Yticnpbopelgmiaa
namespace Go.Proofs.Yticnpbopelgmiaa
open Go.RowKit
set_option maxRecDepth 100000
section
variable {P : Program} {n : Nat}
theorem HRep.outer {E : Env} {h : Hp} {o o' : Bars} {w : World} (H : HRep E h o w) (ho : ∀ t b, o' t b → o t b) : HRep E h o' w := by
  have T : Trans E h (bars E h o) w E h (bars E h o') w := ⟨fun _ _ _ => rfl, fun _ _ m hv => ⟨m, hv, Nat.le_refl _, fun _ => rfl⟩, fun _ _ _ n hv => ⟨n, hv⟩, ⟨fun t b _ hm => ⟨rfl, fun hx => hm (hx.imp id (ho t b))⟩, Nat.le_refl _⟩⟩
  exact ⟨fun k ob hk => (H.obs k ob hk).move T hk rfl rfl rfl (fun _ _ => rfl) (H.closed k _ hk) (H.closed k _ hk), H.apart, H.closed⟩
variable {fn : Func} {r : V} {hE : Hp} {G : Ctx} {fr : Fr} {h : Hp}
end
end Go.Proofs.Yticnpbopelgmiaa
namespace Go.Proofs.Yticnpbopelgmiaa
open Go.RowKit
set_option maxRecDepth 100000
-- SimX

section
variable {t : Bool} {g : Gram} {w : List Int}
/-! ### The deferred call -/
/-- What at says, and how many nodes are left then. -/
def atF (g : Gram) (w : List Int) (k : Nat) : Tree × Fault × Nat := match treeF g (wcns g w manyC) w 400 g.start.toNat 0 w.length k 400 with
  | some (x, L) => (x, ⟨0, 0⟩, L)
  | none => (.mk 0 [], ⟨6, -1⟩, 0)
end
end Go.Proofs.Yticnpbopelgmiaa
namespace Go.Proofs.Yticnpbopelgmiaa
open Go.RowKit
set_option maxRecDepth 100000
-- SimX


section
variable {t : Bool} {g : Gram} {w : List Int}
end
end Go.Proofs.Yticnpbopelgmiaa
namespace Go.Proofs.Yticnpbopelgmiaa
open Go.RowKit
set_option maxRecDepth 100000
-- SimX

section
variable {t : Bool} {g : Gram} {w : List Int}
/-- The trees from the k-th on, so many. -/
def listF (g : Gram) (w : List Int) : Nat → Nat → List Tree → List Tree × Fault
  | 0, _, acc => (acc, ⟨0, 0⟩)
  | n + 1, k, acc => if (atF g w k).2.1.code = 0 then listF g w n (k + 1) (acc ++ [(atF g w k).1]) else ([], (atF g w k).2.1)
def fListF (g : Gram) (w : List Int) : List Tree × Fault := if (opF g w).code = 0 then (if 200 < cntF g w then ([], ⟨6, -1⟩) else listF g w (cntF g w) 0 []) else ([], opF g w)
end
end Go.Proofs.Yticnpbopelgmiaa
